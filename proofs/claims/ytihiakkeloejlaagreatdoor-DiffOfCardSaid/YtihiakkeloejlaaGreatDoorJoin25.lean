/- Several texts, joined for the limit of sixty files; each one opens with its own comment. -/
import Derived.Test.YtihiakkeloejlaaGreatDoorJoin14
import Derived.Test.YtihiakkeloejlaaGreatDoorJoin24
import Derived.Test.YtihiakkeloejlaaGreatDoorJoin9
import Derived.Test.YtihiakkeloejlaaGreatDoorJoin22
import Derived.Test.YtihiakkeloejlaaGreatDoorJoin21
/- Plain laws of TreeFull: paths 'n0', 'n1', ..: a tree of them. -/
set_option linter.unusedVariables false
set_option linter.unusedSimpArgs false
namespace Sw
open Go
open Go.Proofs.YtihiakkeloejlaaGreatDoor (partsS)
section
variable {κ ν : Type} {c : κ → κ → Int}
theorem get_of_mem (hO : Ord3 c) {k : κ} {v : ν} : ∀ {l : List (κ × ν)}, Up c l → (k, v) ∈ l → getN c k l = some v ∧ inN c k l = true
  | [], _, h => by cases h
  | e :: l, hu, h => by
    rcases List.mem_cons.1 h with rfl | h
    · have h0 : c ((k, v) : κ × ν).1 k = 0 := hO.self k
      unfold getN inN
      rw [if_neg (by omega), if_pos h0, if_neg (by omega), decide_eq_true h0]
      exact ⟨rfl, rfl⟩
    · have h1 := hu.head _ h
      unfold getN inN
      rw [if_pos h1, if_pos h1]
      exact get_of_mem hO hu.tail h
theorem get_of_not (hO : Ord3 c) {k : κ} : ∀ {l : List (κ × ν)}, (∀ e ∈ l, e.1 ≠ k) → getN c k l = none ∧ inN c k l = false
  | [], _ => ⟨rfl, rfl⟩
  | e :: l, h => by
    have h1 := h e (List.mem_cons_self ..)
    have h2 : ¬ c e.1 k = 0 := fun e' => h1 (hO.zero _ _ e')
    unfold getN inN
    by_cases h3 : c e.1 k < 0
    · rw [if_pos h3, if_pos h3]
      exact get_of_not hO (fun e he => h e (List.mem_cons_of_mem _ he))
    · rw [if_neg h3, if_neg h2, if_neg h3, decide_eq_false h2]
      exact ⟨rfl, rfl⟩
theorem get_put (hO : Ord3 c) (k : κ) (v : ν) : ∀ l : List (κ × ν), getN c k (putN c k v l) = some v
  | [] => by
    have : c ((k, v) : κ × ν).1 k = 0 := hO.self k
    unfold putN getN
    rw [if_neg (by omega), if_pos this]
  | e :: l => by
    have h0 := hO.self k
    unfold putN
    split
    · rename_i h
      unfold getN
      rw [if_pos h]
      exact get_put hO k v l
    · split
      · unfold getN
        rw [if_neg (by simpa using (by omega : ¬ c k k < 0)), if_pos (by simpa using h0)]
      · unfold getN
        rw [if_neg (by simpa using (by omega : ¬ c k k < 0)), if_pos (by simpa using h0)]
theorem put_keeps (hO : Ord3 c) {k : κ} {v : ν} {e : κ × ν} (hk : e.1 ≠ k) : ∀ {l : List (κ × ν)}, e ∈ l → e ∈ putN c k v l
  | [], h => by cases h
  | a :: l, h => by
    unfold putN
    split
    · rcases List.mem_cons.1 h with rfl | h
      · exact List.mem_cons_self ..
      · exact List.mem_cons_of_mem _ (put_keeps hO hk h)
    · split
      · rename_i h2
        rcases List.mem_cons.1 h with rfl | h
        · exact absurd (hO.zero _ _ h2) hk
        · exact List.mem_cons_of_mem _ h
      · exact List.mem_cons_of_mem _ h
end
/-- a directory -/
def dirN : Nd := ⟨2, 0, 0, ⟨#[]⟩⟩
/-- a file of one byte -/
def filN : Nd := ⟨1, 0, 2162688, ⟨#[120]⟩⟩
def pathN (i : Nat) : ByteArray := ⟨#[110]⟩ ++ decS i
def valL (l : List UInt8) : Nat := l.foldl (fun a x => 10 * a + (x.toNat - 48)) 0
theorem path_all : (List.range 510).all (fun i => decide ((partsS (pathN i)).length = 1) && decide (valL (decL i) = i) && decide ((pathN i).size ≤ 10)) = true := by kernel_rfl
theorem path_one {i : Nat} (h : i < 510) : (partsS (pathN i)).length = 1 ∧ valL (decL i) = i ∧ (pathN i).size ≤ 10 := by
  have := List.all_eq_true.1 path_all i (List.mem_range.2 h)
  simp only [Bool.and_eq_true, decide_eq_true_eq] at this
  exact ⟨this.1.1, this.1.2, this.2⟩
theorem one_right {p : ByteArray} (h : (partsS p).length = 1) : rightL p.data.toList = true ∧ parentS p = ⟨#[]⟩ ∧ upsS p = [] := by
  refine ⟨?_, ?_, ?_⟩
  · cases hr : rightL p.data.toList with
    | true => rfl
    | false => rw [partsS_not hr] at h; cases h
  · unfold parentS
    have : (partsS p).dropLast = [] := List.length_eq_zero_iff.1 (by rw [List.length_dropLast]; omega)
    rw [this]
    rfl
  · unfold upsS
    rw [h]
    rfl
theorem path_inj {i j : Nat} (hi : i < 510) (hj : j < 510) (h : pathN i = pathN j) : i = j := by
  have h1 := congrArg (fun s : ByteArray => s.data.toList) h
  unfold pathN decS at h1
  simp at h1
  rw [← (path_one hi).2.1, ← (path_one hj).2.1, h1]
/-- all of a tree's paths have one part -/
def Flat (xs : List NE) : Prop := ∀ e ∈ xs, (partsS e.1).length = 1
theorem flat_holds {xs : List NE} (h : Flat xs) (p : ByteArray) : holdsT xs p = false := by
  unfold holdsT
  cases hf : (xs.drop (lbN ordS p xs)).find? (fun e => !decide (e.1 = p)) with
  | none => rfl
  | some e =>
    have := List.mem_of_find?_eq_some hf
    show inS (upsS e.1) p = false
    rw [(one_right (h e (List.mem_of_mem_drop this))).2.2]
    rfl
theorem Flat.put {xs : List NE} (h : Flat xs) {p : ByteArray} (hp : (partsS p).length = 1) (n : Nd) : Flat (putN ordS p n xs) := fun e he => by
  rcases put_mem p n xs e he with rfl | he
  · exact hp
  · exact h e he
theorem Flat.drop {xs : List NE} (h : Flat xs) (p : ByteArray) : Flat (dropN ordS p xs) := fun e he => h e (drop_mem p xs e he)
/-- a path of one part: may a node be put there? -/
theorem may_one {xs : List NE} {p : ByteArray} {n : Nd} (hf : Flat xs) (hp : (partsS p).length = 1) (h0 : ¬ n.kind = 0) (hr : nodeR n = 0) : mayT xs p n = if (getT xs p).kind = 0 ∧ 500 ≤ xs.length then 4 else 0 := by
  obtain ⟨h1, h2, _⟩ := one_right hp
  unfold mayT parentT
  rw [flat_holds hf]
  simp [h1, h2, h0, hr]
theorem drop_one {xs : List NE} {p : ByteArray} (hf : Flat xs) (hk : ¬ (getT xs p).kind = 0) : whyDrop xs p = 0 := by
  unfold whyDrop
  rw [if_neg hk, flat_holds hf]
  simp
theorem dirR : nodeR dirN = 0 := by kernel_rfl
theorem filR : nodeR filN = 0 := by kernel_rfl
/-- the tree behind i puts -/
structure FullAt (i : Nat) (xs : List NE) : Prop where
  up : Up ordS xs
  len : xs.length = min i 500
  mem : ∀ e, e ∈ xs ↔ ∃ j, j < min i 500 ∧ e = (pathN j, dirN)
theorem FullAt.zero : FullAt 0 [] := ⟨List.Pairwise.nil, rfl, fun e => ⟨(fun h => by cases h), (fun ⟨j, h, _⟩ => by omega)⟩⟩
theorem FullAt.flat {i : Nat} {xs : List NE} (h : FullAt i xs) : Flat xs := fun e he => by
  obtain ⟨j, hj, rfl⟩ := (h.mem e).1 he
  exact (path_one (by omega)).1
theorem FullAt.not {i : Nat} {xs : List NE} (h : FullAt i xs) (hi : i < 510) {k : Nat} (hk : k < 510) (hki : min i 500 ≤ k) : getN ordS (pathN k) xs = none ∧ inN ordS (pathN k) xs = false :=
  get_of_not ordS_ord fun e he hq => by
    obtain ⟨j, hj, rfl⟩ := (h.mem e).1 he
    have := path_inj (by omega) hk hq
    omega
theorem FullAt.has {i : Nat} {xs : List NE} (h : FullAt i xs) {k : Nat} (hk : k < min i 500) : getN ordS (pathN k) xs = some dirN ∧ inN ordS (pathN k) xs = true :=
  get_of_mem ordS_ord h.up ((h.mem _).2 ⟨k, hk, rfl⟩)
theorem FullAt.may {i : Nat} {xs : List NE} (h : FullAt i xs) (hi : i < 510) : mayT xs (pathN i) dirN = if i < 500 then 0 else 4 := by
  rw [may_one h.flat (path_one hi).1 (by decide) dirR]
  have hg : getT xs (pathN i) = ndZ := by unfold getT; rw [(h.not hi hi (by omega)).1]; rfl
  rw [hg, h.len]
  by_cases hlt : i < 500
  · rw [if_pos hlt, if_neg (by omega)]
  · rw [if_neg hlt, if_pos ⟨rfl, by omega⟩]
theorem FullAt.step {i : Nat} {xs : List NE} (h : FullAt i xs) (hi : i < 510) : FullAt (i + 1) (putT xs (pathN i) dirN) := by
  unfold putT
  rw [h.may hi]
  by_cases hlt : i < 500
  · rw [if_pos hlt, if_pos rfl]
    have hnot := (h.not hi hi (by omega))
    have hnew := put_new ordS_ord (pathN i) dirN xs h.up (fun x hx hq => by
      obtain ⟨j, hj, rfl⟩ := (h.mem x).1 hx
      have := path_inj (by omega) hi hq
      omega)
    refine ⟨put_up ordS_ord _ _ _ h.up, by rw [hnew.2, h.len]; omega, fun e => ?_⟩
    rw [hnew.1, h.mem]
    constructor
    · rintro (rfl | ⟨j, hj, rfl⟩)
      · exact ⟨i, by omega, rfl⟩
      · exact ⟨j, by omega, rfl⟩
    · rintro ⟨j, hj, rfl⟩
      by_cases hji : j = i
      · subst hji; exact .inl rfl
      · exact .inr ⟨j, by omega, rfl⟩
  · rw [if_neg hlt, if_neg (by decide)]
    exact ⟨h.up, by rw [h.len]; omega, fun e => by rw [h.mem]; rw [show min (i + 1) 500 = min i 500 by omega]⟩
theorem path7 : pathN 7 = ⟨#[110, 55]⟩ := by kernel_rfl
theorem path3 : pathN 3 = ⟨#[110, 51]⟩ := by kernel_rfl
def zzS : ByteArray := ⟨#[122, 122]⟩
def n3x : ByteArray := ⟨#[110, 51, 47, 120]⟩
theorem zz_one : (partsS zzS).length = 1 := by kernel_rfl
theorem n3x_right : rightL n3x.data.toList = true := by kernel_rfl
theorem n3x_parent : parentS n3x = pathN 3 := by kernel_rfl
theorem zz_not {j : Nat} (h : j < 510) : pathN j ≠ zzS := fun e => by
  have h1 := congrArg (fun s : ByteArray => s.data.toList) e
  unfold pathN zzS at h1
  simp at h1
/-- what the end of TreeFull tells -/
theorem full_end {k : Nat} {xs : List NE} (h : FullAt k xs) (hk : 490 ≤ k) (hk2 : k < 510) :
    mayT xs (pathN 7) filN = 0 ∧ getT (putT xs (pathN 7) filN) (pathN 7) = filN ∧
    whyDrop (putT xs (pathN 7) filN) (pathN 3) = 0 ∧
    mayT (dropT (putT xs (pathN 7) filN) (pathN 3)) n3x dirN = 7 ∧
    putT (dropT (putT xs (pathN 7) filN) (pathN 3)) n3x dirN = dropT (putT xs (pathN 7) filN) (pathN 3) ∧
    mayT (dropT (putT xs (pathN 7) filN) (pathN 3)) zzS dirN = 0 ∧
    (putT (dropT (putT xs (pathN 7) filN) (pathN 3)) zzS dirN).length = min k 500 := by
  have h7 := h.has (k := 7) (by omega)
  have h3 := h.has (k := 3) (by omega)
  have m7 : mayT xs (pathN 7) filN = 0 := by
    rw [may_one h.flat (path_one (by omega)).1 (by decide) filR]
    have hg : getT xs (pathN 7) = dirN := by unfold getT; rw [h7.1]; rfl
    rw [hg, if_neg (by rintro ⟨e, _⟩; cases e)]
  have p7 : putT xs (pathN 7) filN = putN ordS (pathN 7) filN xs := by unfold putT; rw [if_pos m7]
  rw [p7]
  obtain ⟨ys, hys⟩ : ∃ ys, putN ordS (pathN 7) filN xs = ys := ⟨_, rfl⟩
  have hyu : Up ordS ys := by rw [← hys]; exact put_up ordS_ord _ _ _ h.up
  have hyf : Flat ys := by rw [← hys]; exact h.flat.put (path_one (by omega)).1 _
  have hyl : ys.length = min k 500 := by rw [← hys, put_len, if_pos h7.2, h.len]
  have hyg : getN ordS (pathN 7) ys = some filN := by rw [← hys]; exact get_put ordS_ord _ _ _
  have hne : pathN 3 ≠ pathN 7 := fun e => by have := path_inj (by omega) (by omega) e; omega
  have hy3 : (pathN 3, dirN) ∈ ys := by rw [← hys]; exact put_keeps ordS_ord hne ((h.mem _).2 ⟨3, by omega, rfl⟩)
  have hym : ∀ e ∈ ys, ∃ j, j < 510 ∧ e.1 = pathN j := fun e he => by
    rw [← hys] at he
    rcases put_mem _ _ _ _ he with rfl | he
    · exact ⟨7, by omega, rfl⟩
    · obtain ⟨j, hj, rfl⟩ := (h.mem e).1 he
      exact ⟨j, by omega, rfl⟩
  rw [hys]
  have g3 := get_of_mem ordS_ord hyu hy3
  have w3 : whyDrop ys (pathN 3) = 0 := drop_one hyf (by unfold getT; rw [g3.1]; exact (by decide : ¬ dirN.kind = 0))
  have d3 : dropT ys (pathN 3) = dropN ordS (pathN 3) ys := by unfold dropT; rw [if_pos w3]
  rw [d3]
  have hd := drop_filter ordS_ord (pathN 3) ys hyu
  have hdl : (dropN ordS (pathN 3) ys).length + 1 = min k 500 := by
    rw [drop_hit (pathN 3) ys g3.2, ← hyl, List.length_append, List.length_take, List.length_drop]
    have := inN_lt ordS_ord g3.2
    omega
  have hdf : Flat (dropN ordS (pathN 3) ys) := hyf.drop _
  have hdm : ∀ e ∈ dropN ordS (pathN 3) ys, e.1 ≠ pathN 3 := fun e he hq => by
    rw [hd, List.mem_filter] at he
    have := he.2
    rw [hq, ordS_ord.self] at this
    simp at this
  have hdn := get_of_not ordS_ord hdm
  obtain ⟨zs, hzs⟩ : ∃ zs, dropN ordS (pathN 3) ys = zs := ⟨_, rfl⟩
  have hzm : ∀ e ∈ zs, e.1 ≠ zzS := fun e he => by
    rw [← hzs] at he
    obtain ⟨j, hj, e1⟩ := hym e (drop_mem _ _ _ he)
    rw [e1]
    exact zz_not hj
  rw [hzs] at hdl hdf hdn ⊢
  have hzz := get_of_not ordS_ord hzm
  have m1 : mayT zs n3x dirN = 7 := by
    unfold mayT parentT
    rw [n3x_right, n3x_parent]
    have hg : getT zs (pathN 3) = ndZ := by unfold getT; rw [hdn.1]; rfl
    have hp3 : ¬ pathN 3 = ⟨#[]⟩ := by rw [path3]; intro e; cases e
    rw [hg, if_neg (by simp), if_neg (by decide), if_neg (fun e => e dirR), if_neg hp3]
    rfl
  have m2 : mayT zs zzS dirN = 0 := by
    rw [may_one hdf zz_one (by decide) dirR, if_neg (by omega)]
  refine ⟨m7, by unfold getT; rw [hyg]; rfl, w3, m1, by unfold putT; rw [m1]; rfl, m2, ?_⟩
  unfold putT
  rw [m2, if_pos rfl, put_len, hzz.2, if_neg (by simp)]
  omega
end Sw
/- Two trees' rows joined, and how they differ. -/
set_option linter.unusedVariables false
set_option linter.unusedSimpArgs false
namespace Sw
open Go
theorem getN_skip {a : NE} {x : List NE} {p : ByteArray} (hu : Up ordS (a :: x)) (hp : ¬ a.1 = p) : getN ordS p (a :: x) = getN ordS p x := by
  have hux : Up ordS x := hu.tail
  rcases Classical.em (∃ e ∈ x, e.1 = p) with ⟨⟨q, v⟩, he, rfl⟩ | hn
  · rw [(get_of_mem ordS_ord hux he).1, (get_of_mem ordS_ord hu (List.mem_cons_of_mem _ he)).1]
  · rw [(get_of_not ordS_ord (fun e he h => hn ⟨e, he, h⟩)).1, (get_of_not ordS_ord (fun e he h => by
      rcases List.mem_cons.1 he with rfl | he
      · exact hp h
      · exact hn ⟨e, he, h⟩)).1]
theorem up_lt {a : NE} {x : List NE} (hu : Up ordS (a :: x)) {e : NE} (he : e ∈ x) : ordS a.1 e.1 < 0 := (List.pairwise_cons.1 hu).1 e he
theorem lt_ne {p q : ByteArray} (h : ordS p q < 0) : ¬ p = q := fun e => by subst e; rw [ordS_refl] at h; omega
theorem lt_trans3 {p q s : ByteArray} (h1 : ordS p q < 0) (h2 : ordS q s < 0) : ordS p s < 0 := ordS_ord.trans _ _ _ h1 h2
theorem up_all {b : NE} {y : List NE} (hu : Up ordS (b :: y)) {p : ByteArray} (h : ordS p b.1 < 0) : ∀ e ∈ b :: y, ordS p e.1 < 0 := fun e he => by
  rcases List.mem_cons.1 he with rfl | he
  · exact h
  · exact lt_trans3 h (up_lt hu he)
abbrev JnE := ByteArray × Option Nd × Option Nd
def JnOk (x y : List NE) (J : List JnE) : Prop := (∀ t ∈ J, t.2.1 = getN ordS t.1 x ∧ t.2.2 = getN ordS t.1 y) ∧ Rise (J.map Prod.fst) ∧ ∀ p, p ∈ J.map Prod.fst ↔ p ∈ x.map Prod.fst ∨ p ∈ y.map Prod.fst
theorem mem_keys {x : List NE} {p : ByteArray} : p ∈ x.map Prod.fst ↔ ∃ e ∈ x, e.1 = p := List.mem_map
theorem join_ok : ∀ (N : Nat) (x y : List NE), x.length + y.length ≤ N → Up ordS x → Up ordS y → JnOk x y (joinL ordS x y)
  | N, x, y, hN, hx, hy => by
    by_cases h0 : 0 < x.length + y.length
    · cases N with
      | zero => omega
      | succ N =>
        rcases join_cases (c := ordS) x y h0 with ⟨hs, a, x', rfl, e⟩ | ⟨hs, b, y', rfl, e⟩ | ⟨hs, a, x', b, y', rfl, rfl, e⟩
        · have hlt : ∀ e ∈ y, ordS a.1 e.1 < 0 := by
            cases y with
            | nil => intro e he; cases he
            | cons b y => exact up_all hy hs
          obtain ⟨i1, i2, i3⟩ := join_ok N x' y (by simp only [List.length_cons] at hN; omega) hx.tail hy
          have hkey : ∀ p ∈ (joinL ordS x' y).map Prod.fst, ordS a.1 p < 0 := fun p hp => by
            rcases (i3 p).1 hp with h | h
            · obtain ⟨e, he, rfl⟩ := mem_keys.1 h; exact up_lt hx he
            · obtain ⟨e, he, rfl⟩ := mem_keys.1 h; exact hlt e he
          rw [e]
          refine ⟨fun t ht => ?_, ?_, fun p => ?_⟩
          · rcases List.mem_cons.1 ht with rfl | ht
            · exact ⟨(get_of_mem ordS_ord hx (List.mem_cons_self ..)).1.symm, (get_of_not ordS_ord (fun e he h => lt_ne (hlt e he) h.symm)).1.symm⟩
            · have h1 := i1 t ht
              have h2 := hkey t.1 (List.mem_map.2 ⟨t, ht, rfl⟩)
              exact ⟨h1.1.trans (getN_skip hx (lt_ne h2)).symm, h1.2⟩
          · exact List.pairwise_cons.2 ⟨hkey, i2⟩
          · rw [List.map_cons, List.map_cons, List.mem_cons, List.mem_cons, i3 p, or_assoc]
        · have hlt : ∀ e ∈ x, ordS b.1 e.1 < 0 := by
            cases x with
            | nil => intro e he; cases he
            | cons a x =>
              have : ordS b.1 a.1 < 0 := by have h1 : 0 < ordS a.1 b.1 := hs; have := ordS_neg a.1 b.1; omega
              exact up_all hx this
          obtain ⟨i1, i2, i3⟩ := join_ok N x y' (by simp only [List.length_cons] at hN; omega) hx hy.tail
          have hkey : ∀ p ∈ (joinL ordS x y').map Prod.fst, ordS b.1 p < 0 := fun p hp => by
            rcases (i3 p).1 hp with h | h
            · obtain ⟨e, he, rfl⟩ := mem_keys.1 h; exact hlt e he
            · obtain ⟨e, he, rfl⟩ := mem_keys.1 h; exact up_lt hy he
          rw [e]
          refine ⟨fun t ht => ?_, ?_, fun p => ?_⟩
          · rcases List.mem_cons.1 ht with rfl | ht
            · exact ⟨(get_of_not ordS_ord (fun e he h => lt_ne (hlt e he) h.symm)).1.symm, (get_of_mem ordS_ord hy (List.mem_cons_self ..)).1.symm⟩
            · have h1 := i1 t ht
              have h2 := hkey t.1 (List.mem_map.2 ⟨t, ht, rfl⟩)
              exact ⟨h1.1, h1.2.trans (getN_skip hy (lt_ne h2)).symm⟩
          · exact List.pairwise_cons.2 ⟨hkey, i2⟩
          · rw [List.map_cons, List.map_cons, List.mem_cons, List.mem_cons, i3 p]
            exact or_left_comm
        · have hab : a.1 = b.1 := ordS_zero hs
          obtain ⟨i1, i2, i3⟩ := join_ok N x' y' (by simp only [List.length_cons] at hN; omega) hx.tail hy.tail
          have hkey : ∀ p ∈ (joinL ordS x' y').map Prod.fst, ordS b.1 p < 0 := fun p hp => by
            rcases (i3 p).1 hp with h | h
            · obtain ⟨e, he, rfl⟩ := mem_keys.1 h; rw [← hab]; exact up_lt hx he
            · obtain ⟨e, he, rfl⟩ := mem_keys.1 h; exact up_lt hy he
          rw [e]
          refine ⟨fun t ht => ?_, ?_, fun p => ?_⟩
          · rcases List.mem_cons.1 ht with rfl | ht
            · refine ⟨?_, (get_of_mem ordS_ord hy (List.mem_cons_self ..)).1.symm⟩
              show some a.2 = getN ordS b.1 (a :: x')
              rw [← hab]
              exact (get_of_mem ordS_ord hx (List.mem_cons_self ..)).1.symm
            · have h1 := i1 t ht
              have h2 := hkey t.1 (List.mem_map.2 ⟨t, ht, rfl⟩)
              exact ⟨h1.1.trans (getN_skip hx (by rw [hab]; exact lt_ne h2)).symm, h1.2.trans (getN_skip hy (lt_ne h2)).symm⟩
          · exact List.pairwise_cons.2 ⟨hkey, i2⟩
          · rw [List.map_cons, List.map_cons, List.map_cons, List.mem_cons, List.mem_cons, List.mem_cons, i3 p, hab]
            constructor
            · rintro (h | h | h)
              · exact .inl (.inl h)
              · exact .inl (.inr h)
              · exact .inr (.inr h)
            · rintro ((h | h) | (h | h))
              · exact .inl h
              · exact .inr (.inl h)
              · exact .inl h
              · exact .inr (.inr h)
    · obtain rfl : x = [] := List.length_eq_zero_iff.1 (by omega)
      obtain rfl : y = [] := List.length_eq_zero_iff.1 (by omega)
      rw [joinL_nil]
      exact ⟨fun t ht => (by cases ht), List.Pairwise.nil, fun p => by simp⟩
/-- the join, path by path -/
theorem join_paths {xs ys : List NE} (hx : Up ordS xs) (hy : Up ordS ys) : joinL ordS xs ys = (pathsS (xs.map Prod.fst ++ ys.map Prod.fst)).map fun p => (p, getN ordS p xs, getN ordS p ys) := by
  obtain ⟨h1, h2, h3⟩ := join_ok _ xs ys (Nat.le_refl _) hx hy
  have hk : (joinL ordS xs ys).map Prod.fst = pathsS (xs.map Prod.fst ++ ys.map Prod.fst) := rise_ext h2 (pathsS_rise _) (fun q => by rw [h3 q, pathsS_mem, List.mem_append])
  rw [← hk, List.map_map]
  conv => lhs; rw [← List.map_id (joinL ordS xs ys)]
  refine List.map_congr_left fun t ht => ?_
  obtain ⟨p, a, b⟩ := t
  have := h1 _ ht
  simp only at this
  simp only [id, Function.comp, ← this.1, ← this.2]
/-- kind, as the code has it -/
def kindJ (t : JnE) : Int := match t.2.1, t.2.2 with
  | none, _ => 1
  | some _, none => 2
  | some a, some b => if printN a = printN b then 0 else if a.kind = b.kind then 3 else 5
def changeJ (t : JnE) : Option ChE := if kindJ t = 0 then none else some (kindJ t, t.1)
theorem fm_congr {α β : Type} {f g : α → Option β} : ∀ {l : List α}, (∀ x ∈ l, f x = g x) → l.filterMap f = l.filterMap g
  | [], _ => rfl
  | x :: l, h => by rw [List.filterMap_cons, List.filterMap_cons, h x (List.mem_cons_self ..), fm_congr (fun y hy => h y (List.mem_cons_of_mem _ hy))]
theorem getT_some {xs : List NE} (h : TI xs) {p : ByteArray} {a : Nd} (hg : getN ordS p xs = some a) : getT xs p = a ∧ ¬ a.kind = 0 := by
  have h1 : getT xs p = a := by unfold getT; rw [hg]; rfl
  refine ⟨h1, fun h0 => ?_⟩
  rcases Classical.em (∃ e ∈ xs, e.1 = p) with ⟨e, he, rfl⟩ | hn
  · rw [getT_in h.up he] at h1
    rw [← h1] at h0
    exact (h.nod e he).1 h0
  · rw [(get_of_not ordS_ord (fun e he h => hn ⟨e, he, h⟩)).1] at hg
    cases hg
theorem getT_none {xs : List NE} {p : ByteArray} (hg : getN ordS p xs = none) : getT xs p = ndZ := by unfold getT; rw [hg]; rfl
theorem print_kind {a b : Nd} (h : printN a = printN b) : a.kind = b.kind := by
  have := congrArg Pr.kind h
  exact this
/-- what the join of two trees tells of how they differ -/
theorem each_join {xs ys : List NE} (hx : TI xs) (hy : TI ys) : (joinL ordS xs ys).filterMap changeJ = eachP xs ys := by
  rw [join_paths hx.up hy.up]
  unfold eachP
  rw [List.filterMap_map]
  refine fm_congr fun p hp => ?_
  rw [pathsS_mem, List.mem_append] at hp
  simp only [Function.comp, changeJ, eachE]
  have hk : kindJ (p, getN ordS p xs, getN ordS p ys) = kindP (getT xs p) (getT ys p) := by
    cases ha : getN ordS p xs with
    | none =>
      have e1 := getT_none ha
      cases hb : getN ordS p ys with
      | none =>
        exfalso
        rcases hp with h | h
        · obtain ⟨⟨q, v⟩, he, rfl⟩ := mem_keys.1 h
          rw [(get_of_mem ordS_ord hx.up he).1] at ha
          cases ha
        · obtain ⟨⟨q, v⟩, he, rfl⟩ := mem_keys.1 h
          rw [(get_of_mem ordS_ord hy.up he).1] at hb
          cases hb
      | some b =>
        obtain ⟨e2, e3⟩ := getT_some hy hb
        rw [e1, e2]
        show (1 : Int) = kindP ndZ b
        unfold kindP
        rw [if_neg (fun h => e3 (print_kind h).symm), if_pos (show ndZ.kind = 0 from rfl)]
    | some a =>
      obtain ⟨e1, e2⟩ := getT_some hx ha
      cases hb : getN ordS p ys with
      | none =>
        have e3 := getT_none hb
        rw [e1, e3]
        show (2 : Int) = kindP a ndZ
        unfold kindP
        rw [if_neg (fun h => e2 (print_kind h)), if_neg e2, if_pos (show ndZ.kind = 0 from rfl)]
      | some b =>
        obtain ⟨e3, e4⟩ := getT_some hy hb
        rw [e1, e3]
        show (if printN a = printN b then (0 : Int) else if a.kind = b.kind then 3 else 5) = kindP a b
        unfold kindP
        rw [if_neg e2, if_neg e4]
  rw [hk]
end Sw
/- diff.kind, file, Each, Count. -/
set_option linter.unusedVariables false
set_option linter.unusedSimpArgs false
namespace Go.Proofs.YtihiakkeloejlaaGreatDoor
open Go Go.RowKit
open Sw
set_option maxRecDepth 100000 in
set_option maxHeartbeats 4000000 in
theorem diffKind_any (w : World) (p : ByteArray) (x y : Option Nd) (hx : ∀ a, x = some a → a.data.size ≤ maxLen) (hy : ∀ a, y = some a → a.data.size ≤ maxLen) :
    Calls Tryz.prog 33 #[.agg (pCSN (x, y))] w fun e w' => e = .returned (.int .i64 (kindJ (p, x, y))) ∧ Below w.heap.size w w' := by
  have hb0 : Below w.heap.size w (w.alloc (.cells (pCSN (x, y)) 69)) := (Below.refl _ w).alloc (Nat.le_refl _) _
  have hB := Blk.new w 69 (pCSN (x, y))
  have HB := Lib.hid (And.intro hb0 hB)
  clear hb0 hB
  cases x with
  | none =>
    obtain ⟨b, hb⟩ : ∃ b, y.getD ⟨0, 0, 0, ⟨#[]⟩⟩ = b := ⟨_, rfl⟩
    obtain ⟨bk, bm, bt, bd⟩ := b
    unfold pCSN at HB ⊢
    simp only [Option.getD_none, hb, Option.isSome_none] at HB ⊢
    generalize y.isSome = yb at *
    go_enter Tryz.func33, Tryz.ntmps33
    go_wp2_with fail
    go_ret
    exact ⟨rfl, HB.out.1⟩
  | some a =>
    cases y with
    | none =>
      obtain ⟨ak, am, at', ad⟩ := a
      unfold pCSN at HB ⊢
      simp only [Option.getD_none, Option.getD_some, Option.isSome_none, Option.isSome_some] at HB ⊢
      go_enter Tryz.func33, Tryz.ntmps33
      go_wp2_with fail
      go_ret
      exact ⟨rfl, HB.out.1⟩
    | some b =>
      have hk : kindJ (p, some a, some b) = if decide (printN a = printN b) = true then 0 else if a.kind = b.kind then 3 else 5 := by
        simp [kindJ]
      rw [hk]
      clear hk
      have hs := fun W => nodeSame_any W a b (hx a rfl) (hy b rfl)
      generalize decide (printN a = printN b) = r at *
      have HS := Lib.hid hs
      clear hs hx hy
      obtain ⟨ak, am, at', ad⟩ := a
      obtain ⟨bk, bm, bt, bd⟩ := b
      unfold pCSN at HB ⊢
      simp only [Option.getD_some, Option.isSome_some] at HB ⊢
      simp only [Nd.c] at HS
      go_enter Tryz.func33, Tryz.ntmps33
      go_wp2_with fail
      refine (HS.out _).mono ?_
      rintro e w1 ⟨rfl, hb1⟩
      have H1 := Lib.hid (And.intro (HB.out.1.trans (hb1.mono HB.out.1.size)) (HB.out.2.below hb1 HB.out.2.lt))
      clear hb1 HS
      cases r with
      | true =>
        go_wp2_with fail
        go_ret
        exact ⟨rfl, H1.out.1⟩
      | false =>
        have x0 := H1.out.2.cell 0
        have x4 := H1.out.2.cell 4
        simp only [List.getElem?_toArray, List.getElem?_cons_succ, List.getElem?_cons_zero] at x0 x4
        by_cases hk : ak = bk
        · subst hk
          go_wp2_with fail
          go_ret
          exact ⟨by simp, H1.out.1⟩
        · have t0 : (ak == bk) = false := by simpa using hk
          go_wp2_with fail
          go_ret
          exact ⟨by simp [hk], H1.out.1⟩
theorem strE41 (x : ByteArray) : x.toList.isEmpty = decide (x = ⟨#[]⟩) := by
  rw [ByteArray.toList_eq]
  by_cases h : x = ⟨#[]⟩
  · subst h; rfl
  · rw [decide_eq_false h]
    cases hd : x.data.toList with
    | nil => exact absurd (ByteArray.ext (Array.ext' (by simpa using hd))) h
    | cons a b => rfl
set_option maxRecDepth 100000 in
theorem diffFile_any (w : World) (n : Nd) :
    Calls Tryz.prog 38 #[.agg n.c] w fun e w' => e = .returned (.bool (fileN n)) ∧ Below w.heap.size w w' := by
  obtain ⟨k, m, t, d⟩ := n
  have hb0 : Below w.heap.size w (w.alloc (.cells #[.int .i64 k, .int .i64 m, .int .u32 t, .string d] 54)) := (Below.refl _ w).alloc (Nat.le_refl _) _
  have HB := Lib.hid hb0
  clear hb0
  simp only [Nd.c]
  have he := strE41 d
  by_cases hk : k = 1
  · subst hk
    have hf : fileN ⟨1, m, t, d⟩ = !decide (d = ⟨#[]⟩) := by simp [fileN]
    rw [hf]
    generalize decide (d = ⟨#[]⟩) = r at *
    go_enter Tryz.func38, Tryz.ntmps38
    go_wp2_with fail
    go_ret
    exact ⟨rfl, HB.out⟩
  · have hf : fileN ⟨k, m, t, d⟩ = false := by simp [fileN, hk]
    have t0 : (k == 1) = false := by simpa using hk
    rw [hf]
    clear he
    go_enter Tryz.func38, Tryz.ntmps38
    go_wp2_with fail
    go_ret
    exact ⟨rfl, HB.out⟩
/-- diff.Each itself: two boxes and a function -/
theorem diffEach_any (w : World) (bt bt2 : Nat) :
    Calls Tryz.prog 11 #[.pointer (some ⟨bt, 0, none⟩), .pointer (some ⟨bt2, 0, none⟩)] w fun e w' =>
      e = .returned (.func (.func 30) #[] #[.pointer (some ⟨w.heap.size, 0, none⟩), .pointer (some ⟨w.heap.size + 1, 0, none⟩)]) ∧
      w' = (w.alloc (.cells #[.pointer (some ⟨bt, 0, none⟩)] 26)).alloc (.cells #[.pointer (some ⟨bt2, 0, none⟩)] 26) := by
  go_enter Tryz.func11, Tryz.ntmps11
  go_wp2_with fail
  go_ret
  exact ⟨rfl, rfl⟩
end Go.Proofs.YtihiakkeloejlaaGreatDoor
/- diff.Count. -/
set_option linter.unusedVariables false
set_option linter.unusedSimpArgs false
namespace Sw
def cntD (k : Int) (l : List OfE) : Int := (cntC k l : Nat)
theorem cntD_step (k : Int) (l : List OfE) (i : Nat) (h : i < l.length) : cntD k (l.take (i + 1)) = cntD k (l.take i) + if l[i].1 = k then 1 else 0 := by
  unfold cntD cntC
  rw [List.take_succ_eq_append_getElem h, List.filter_append, List.length_append]
  by_cases hk : l[i].1 = k
  · rw [if_pos hk, List.filter_cons_of_pos (by simpa using hk)]; simp
  · rw [if_neg hk, List.filter_cons_of_neg (by simpa using hk)]; simp
theorem cntD_le (k : Int) (l : List OfE) : 0 ≤ cntD k l ∧ cntD k l ≤ l.length := by
  unfold cntD cntC
  have := List.length_filter_le (fun f : OfE => decide (f.1 = k)) l
  omega
/-- a change's cells -/
def eCC (c : OfE) : List Go.Value := [.int .i64 c.1, .string c.2.1, .string c.2.2]
theorem eCC_len (c : OfE) : (eCC c).length = 3 := rfl
end Sw
namespace Go.Proofs.YtihiakkeloejlaaGreatDoor
open Go Go.RowKit
open Sw
set_option maxRecDepth 100000 in
set_option maxHeartbeats 8000000 in
theorem diffCount_any (w : World) (v : Value) (l : List OfE) (h : SlV w 3 eCC v l) (hl : l.length ≤ 100000) (hs : ∀ f ∈ l, f.1 = 1 ∨ f.1 = 2 ∨ f.1 = 3 ∨ f.1 = 4 ∨ f.1 = 5) :
    Calls Tryz.prog 9 #[v] w fun e w' => e = .returned (.agg #[.int .i64 (cntD 0 l), .int .i64 (cntD 1 l), .int .i64 (cntD 2 l), .int .i64 (cntD 3 l), .int .i64 (cntD 4 l), .int .i64 (cntD 5 l)]) ∧ Below w.heap.size w w' := by
  obtain ⟨A, k, rfl, hk1, hk2, hsl⟩ := h
  unfold maxLen at hk2
  have hb0 : Below w.heap.size w (w.alloc (.cells #[.int .i64 0, .int .i64 0, .int .i64 0, .int .i64 0, .int .i64 0, .int .i64 0] 30)) := (Below.refl _ w).alloc (Nat.le_refl _) _
  have H0 := Lib.hid (And.intro (Blk.new w 30 #[.int .i64 0, .int .i64 0, .int .i64 0, .int .i64 0, .int .i64 0, .int .i64 0]) (And.intro hb0 (And.intro hsl hs)))
  obtain ⟨n, hn⟩ : ∃ n, l.length = n := ⟨_, rfl⟩
  rw [hn] at hk1 hl ⊢
  have HN := Lib.hid hn
  obtain ⟨a0, hz0⟩ : ∃ z, cntD 0 l = z := ⟨_, rfl⟩
  obtain ⟨a1, hz1⟩ : ∃ z, cntD 1 l = z := ⟨_, rfl⟩
  obtain ⟨a2, hz2⟩ : ∃ z, cntD 2 l = z := ⟨_, rfl⟩
  obtain ⟨a3, hz3⟩ : ∃ z, cntD 3 l = z := ⟨_, rfl⟩
  obtain ⟨a4, hz4⟩ : ∃ z, cntD 4 l = z := ⟨_, rfl⟩
  obtain ⟨a5, hz5⟩ : ∃ z, cntD 5 l = z := ⟨_, rfl⟩
  rw [hz0, hz1, hz2, hz3, hz4, hz5]
  have HZ := Lib.hid (And.intro hz0 (And.intro hz1 (And.intro hz2 (And.intro hz3 (And.intro hz4 hz5)))))
  clear hsl hs hb0 hn hz0 hz1 hz2 hz3 hz4 hz5
  go_enter Tryz.func9, Tryz.ntmps9
  go_wp2_with fail
  go_loopw [7] (fun iv wr => ∃ i : Nat, iv = .int .i64 i ∧ i ≤ n ∧ Blk wr w.heap.size 30 #[.int .i64 (cntD 0 (l.take i)), .int .i64 (cntD 1 (l.take i)), .int .i64 (cntD 2 (l.take i)), .int .i64 (cntD 3 (l.take i)), .int .i64 (cntD 4 (l.take i)), .int .i64 (cntD 5 (l.take i))] ∧ Below w.heap.size w wr) (fun iv _ => n - (intOf iv).toNat)
  case atStart => exact ⟨0, rfl, Nat.zero_le _, H0.out.1, H0.out.2.1⟩
  case round =>
    obtain ⟨i, rfl, hi, hB, hb⟩ := hrel
    by_cases hlt : i < n
    · have hiL : i < l.length := by have := HN.out; omega
      obtain ⟨b, off, rfl, hbb, hcs⟩ := (H0.out.2.2.1.below hb (Nat.le_refl _)) (by omega)
      have c0 := hcs i hiL 0 (by omega)
      have c1 := hcs i hiL 1 (by omega)
      have c2 := hcs i hiL 2 (by omega)
      simp only [eCC, List.getElem?_cons_succ, List.getElem?_cons_zero, Nat.add_zero] at c0 c1 c2
      clear hcs
      have hi1 : (i : Int) < n := by omega
      have hsx := H0.out.2.2.2 _ (List.getElem_mem hiL)
      have e0 := cntD_step 0 l i hiL
      have e1 := cntD_step 1 l i hiL
      have e2 := cntD_step 2 l i hiL
      have e3 := cntD_step 3 l i hiL
      have e4 := cntD_step 4 l i hiL
      have e5 := cntD_step 5 l i hiL
      have b0 := cntD_le 0 (l.take i)
      have b1 := cntD_le 1 (l.take i)
      have b2 := cntD_le 2 (l.take i)
      have b3 := cntD_le 3 (l.take i)
      have b4 := cntD_le 4 (l.take i)
      have b5 := cntD_le 5 (l.take i)
      rw [List.length_take] at b0 b1 b2 b3 b4 b5
      obtain ⟨⟨s, q, fr⟩, hx⟩ : ∃ x, l[i] = x := ⟨_, rfl⟩
      simp only [hx] at c0 c1 c2 hsx e0 e1 e2 e3 e4 e5
      clear hx
      generalize cntD 0 (l.take i) = a0 at *
      generalize cntD 1 (l.take i) = a1 at *
      generalize cntD 2 (l.take i) = a2 at *
      generalize cntD 3 (l.take i) = a3 at *
      generalize cntD 4 (l.take i) = a4 at *
      generalize cntD 5 (l.take i) = a5 at *
      have hba := (Below.refl wr.heap.size wr).alloc (Nat.le_refl _) (.cells #[.int .i64 s, .string q, .string fr] 40)
      have HR := Lib.hid (And.intro (hB.below hba hB.lt) (hb.trans (hba.mono hb.size)))
      have x0 := HR.out.1.cell 0
      have x1 := HR.out.1.cell 1
      have x2 := HR.out.1.cell 2
      have x3 := HR.out.1.cell 3
      have x4 := HR.out.1.cell 4
      have x5 := HR.out.1.cell 5
      simp at x0 x1 x2 x3 x4 x5
      have f0 := HR.out.1.frozen 0
      have f1 := HR.out.1.frozen 1
      have f2 := HR.out.1.frozen 2
      have f3 := HR.out.1.frozen 3
      have f4 := HR.out.1.frozen 4
      have f5 := HR.out.1.frozen 5
      clear hba hB hb
      rcases hsx with rfl | rfl | rfl | rfl | rfl
      · simp only [if_pos, reduceIte, Int.reduceEq, Int.add_zero] at e0 e1 e2 e3 e4 e5
        have hwr : IntKind.i64.wrap (a1 + 1) = a1 + 1 := IntWalk.i64_in _ (by omega)
        have HE := Lib.hid (And.intro e0 (And.intro e1 (And.intro e2 (And.intro e3 (And.intro e4 e5)))))
        clear e0 e1 e2 e3 e4 e5
        go_wp2_with fail
        go_roundw
        case rel =>
          refine ⟨i + 1, by go_num, by omega, ?_, HR.out.2.setCell (p := ⟨w.heap.size, 1, none⟩) (Nat.le_refl _) _⟩
          rw [HE.out.1, HE.out.2.1, HE.out.2.2.1, HE.out.2.2.2.1, HE.out.2.2.2.2.1, HE.out.2.2.2.2.2]
          exact HR.out.1.put 1 (.int .i64 (a1 + 1))
        case measure => simp [intOf]; omega
      · simp only [if_pos, reduceIte, Int.reduceEq, Int.add_zero] at e0 e1 e2 e3 e4 e5
        have hwr : IntKind.i64.wrap (a2 + 1) = a2 + 1 := IntWalk.i64_in _ (by omega)
        have HE := Lib.hid (And.intro e0 (And.intro e1 (And.intro e2 (And.intro e3 (And.intro e4 e5)))))
        clear e0 e1 e2 e3 e4 e5
        go_wp2_with fail
        go_roundw
        case rel =>
          refine ⟨i + 1, by go_num, by omega, ?_, HR.out.2.setCell (p := ⟨w.heap.size, 2, none⟩) (Nat.le_refl _) _⟩
          rw [HE.out.1, HE.out.2.1, HE.out.2.2.1, HE.out.2.2.2.1, HE.out.2.2.2.2.1, HE.out.2.2.2.2.2]
          exact HR.out.1.put 2 (.int .i64 (a2 + 1))
        case measure => simp [intOf]; omega
      · simp only [if_pos, reduceIte, Int.reduceEq, Int.add_zero] at e0 e1 e2 e3 e4 e5
        have hwr : IntKind.i64.wrap (a3 + 1) = a3 + 1 := IntWalk.i64_in _ (by omega)
        have HE := Lib.hid (And.intro e0 (And.intro e1 (And.intro e2 (And.intro e3 (And.intro e4 e5)))))
        clear e0 e1 e2 e3 e4 e5
        go_wp2_with fail
        go_roundw
        case rel =>
          refine ⟨i + 1, by go_num, by omega, ?_, HR.out.2.setCell (p := ⟨w.heap.size, 3, none⟩) (Nat.le_refl _) _⟩
          rw [HE.out.1, HE.out.2.1, HE.out.2.2.1, HE.out.2.2.2.1, HE.out.2.2.2.2.1, HE.out.2.2.2.2.2]
          exact HR.out.1.put 3 (.int .i64 (a3 + 1))
        case measure => simp [intOf]; omega
      · simp only [if_pos, reduceIte, Int.reduceEq, Int.add_zero] at e0 e1 e2 e3 e4 e5
        have hwr : IntKind.i64.wrap (a4 + 1) = a4 + 1 := IntWalk.i64_in _ (by omega)
        have HE := Lib.hid (And.intro e0 (And.intro e1 (And.intro e2 (And.intro e3 (And.intro e4 e5)))))
        clear e0 e1 e2 e3 e4 e5
        go_wp2_with fail
        go_roundw
        case rel =>
          refine ⟨i + 1, by go_num, by omega, ?_, HR.out.2.setCell (p := ⟨w.heap.size, 4, none⟩) (Nat.le_refl _) _⟩
          rw [HE.out.1, HE.out.2.1, HE.out.2.2.1, HE.out.2.2.2.1, HE.out.2.2.2.2.1, HE.out.2.2.2.2.2]
          exact HR.out.1.put 4 (.int .i64 (a4 + 1))
        case measure => simp [intOf]; omega
      · simp only [if_pos, reduceIte, Int.reduceEq, Int.add_zero] at e0 e1 e2 e3 e4 e5
        have hwr : IntKind.i64.wrap (a5 + 1) = a5 + 1 := IntWalk.i64_in _ (by omega)
        have HE := Lib.hid (And.intro e0 (And.intro e1 (And.intro e2 (And.intro e3 (And.intro e4 e5)))))
        clear e0 e1 e2 e3 e4 e5
        go_wp2_with fail
        go_roundw
        case rel =>
          refine ⟨i + 1, by go_num, by omega, ?_, HR.out.2.setCell (p := ⟨w.heap.size, 5, none⟩) (Nat.le_refl _) _⟩
          rw [HE.out.1, HE.out.2.1, HE.out.2.2.1, HE.out.2.2.2.1, HE.out.2.2.2.2.1, HE.out.2.2.2.2.2]
          exact HR.out.1.put 5 (.int .i64 (a5 + 1))
        case measure => simp [intOf]; omega
    · obtain rfl : i = n := by omega
      have hf : l.take i = l := List.take_of_length_le (by have := HN.out; omega)
      rw [hf, HZ.out.1, HZ.out.2.1, HZ.out.2.2.1, HZ.out.2.2.2.1, HZ.out.2.2.2.2.1, HZ.out.2.2.2.2.2] at hB
      have x0 := hB.cell 0
      have x1 := hB.cell 1
      have x2 := hB.cell 2
      have x3 := hB.cell 3
      have x4 := hB.cell 4
      have x5 := hB.cell 5
      simp at x0 x1 x2 x3 x4 x5
      have f0 := hB.frozen 0
      have f1 := hB.frozen 1
      have f2 := hB.frozen 2
      have f3 := hB.frozen 3
      have f4 := hB.frozen 4
      have f5 := hB.frozen 5
      have HR := Lib.hid (And.intro hB hb)
      clear hB hb hf
      go_wp2_with fail
      refine bodyPost_ret (v := .agg #[.int .i64 a0, .int .i64 a1, .int .i64 a2, .int .i64 a3, .int .i64 a4, .int .i64 a5]) (results_cell_row rfl _ _ w.heap.size 30 #[.int .i64 a0, .int .i64 a1, .int .i64 a2, .int .i64 a3, .int .i64 a4, .int .i64 a5] (0, 0) _ rfl ((((((HR.out.1.put 0 (.int .i64 a0)).put 1 (.int .i64 a1)).put 2 (.int .i64 a2)).put 3 (.int .i64 a3)).put 4 (.int .i64 a4)).put 5 (.int .i64 a5)) Tryz.underlying30 rfl (by kernel_rfl)) rfl ⟨rfl, ?_⟩
      exact ((((((HR.out.2.setCell (p := ⟨w.heap.size, 0, none⟩) (Nat.le_refl _) (.int .i64 a0)).setCell (p := ⟨w.heap.size, 1, none⟩) (Nat.le_refl _) (.int .i64 a1)).setCell (p := ⟨w.heap.size, 2, none⟩) (Nat.le_refl _) (.int .i64 a2)).setCell (p := ⟨w.heap.size, 3, none⟩) (Nat.le_refl _) (.int .i64 a3)).setCell (p := ⟨w.heap.size, 4, none⟩) (Nat.le_refl _) (.int .i64 a4)).setCell (p := ⟨w.heap.size, 5, none⟩) (Nat.le_refl _) (.int .i64 a5))
end Go.Proofs.YtihiakkeloejlaaGreatDoor
