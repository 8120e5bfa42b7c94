/- Several texts, joined for the limit of sixty files; each one opens with its own comment. -/
import Derived.Test.YthnnnlbdbkdcaaaDoorJoin19
import Derived.Test.YthnnnlbdbkdcaaaDoorJoin1
/- Plain laws of TreeFull: paths 'n0', 'n1', ..: a tree of them. -/
set_option linter.unusedVariables false
set_option linter.unusedSimpArgs false
namespace Sw
open Go
open Go.Proofs.YthnnnlbdbkdcaaaDoor (partsS)
section
variable {κ ν : Type} {c : κ → κ → Int}
theorem get_of_mem (hO : Ord3 c) {k : κ} {v : ν} : ∀ {l : List (κ × ν)}, Up c l → (k, v) ∈ l → getN c k l = some v ∧ inN c k l = true
  | [], _, h => by cases h
  | e :: l, hu, h => by
    rcases List.mem_cons.1 h with rfl | h
    · have h0 : c ((k, v) : κ × ν).1 k = 0 := hO.self k
      unfold getN inN
      rw [if_neg (by omega), if_pos h0, if_neg (by omega), decide_eq_true h0]
      exact ⟨rfl, rfl⟩
    · have h1 := hu.head _ h
      unfold getN inN
      rw [if_pos h1, if_pos h1]
      exact get_of_mem hO hu.tail h
theorem get_of_not (hO : Ord3 c) {k : κ} : ∀ {l : List (κ × ν)}, (∀ e ∈ l, e.1 ≠ k) → getN c k l = none ∧ inN c k l = false
  | [], _ => ⟨rfl, rfl⟩
  | e :: l, h => by
    have h1 := h e (List.mem_cons_self ..)
    have h2 : ¬ c e.1 k = 0 := fun e' => h1 (hO.zero _ _ e')
    unfold getN inN
    by_cases h3 : c e.1 k < 0
    · rw [if_pos h3, if_pos h3]
      exact get_of_not hO (fun e he => h e (List.mem_cons_of_mem _ he))
    · rw [if_neg h3, if_neg h2, if_neg h3, decide_eq_false h2]
      exact ⟨rfl, rfl⟩
theorem get_put (hO : Ord3 c) (k : κ) (v : ν) : ∀ l : List (κ × ν), getN c k (putN c k v l) = some v
  | [] => by
    have : c ((k, v) : κ × ν).1 k = 0 := hO.self k
    unfold putN getN
    rw [if_neg (by omega), if_pos this]
  | e :: l => by
    have h0 := hO.self k
    unfold putN
    split
    · rename_i h
      unfold getN
      rw [if_pos h]
      exact get_put hO k v l
    · split
      · unfold getN
        rw [if_neg (by simpa using (by omega : ¬ c k k < 0)), if_pos (by simpa using h0)]
      · unfold getN
        rw [if_neg (by simpa using (by omega : ¬ c k k < 0)), if_pos (by simpa using h0)]
theorem put_keeps (hO : Ord3 c) {k : κ} {v : ν} {e : κ × ν} (hk : e.1 ≠ k) : ∀ {l : List (κ × ν)}, e ∈ l → e ∈ putN c k v l
  | [], h => by cases h
  | a :: l, h => by
    unfold putN
    split
    · rcases List.mem_cons.1 h with rfl | h
      · exact List.mem_cons_self ..
      · exact List.mem_cons_of_mem _ (put_keeps hO hk h)
    · split
      · rename_i h2
        rcases List.mem_cons.1 h with rfl | h
        · exact absurd (hO.zero _ _ h2) hk
        · exact List.mem_cons_of_mem _ h
      · exact List.mem_cons_of_mem _ h
end
/-- a directory -/
def dirN : Nd := ⟨2, 0, 0, ⟨#[]⟩⟩
/-- a file of one byte -/
def filN : Nd := ⟨1, 0, 2162688, ⟨#[120]⟩⟩
def pathN (i : Nat) : ByteArray := ⟨#[110]⟩ ++ decS i
def valL (l : List UInt8) : Nat := l.foldl (fun a x => 10 * a + (x.toNat - 48)) 0
theorem path_all : (List.range 510).all (fun i => decide ((partsS (pathN i)).length = 1) && decide (valL (decL i) = i) && decide ((pathN i).size ≤ 10)) = true := by kernel_rfl
theorem path_one {i : Nat} (h : i < 510) : (partsS (pathN i)).length = 1 ∧ valL (decL i) = i ∧ (pathN i).size ≤ 10 := by
  have := List.all_eq_true.1 path_all i (List.mem_range.2 h)
  simp only [Bool.and_eq_true, decide_eq_true_eq] at this
  exact ⟨this.1.1, this.1.2, this.2⟩
theorem one_right {p : ByteArray} (h : (partsS p).length = 1) : rightL p.data.toList = true ∧ parentS p = ⟨#[]⟩ ∧ upsS p = [] := by
  refine ⟨?_, ?_, ?_⟩
  · cases hr : rightL p.data.toList with
    | true => rfl
    | false => rw [partsS_not hr] at h; cases h
  · unfold parentS
    have : (partsS p).dropLast = [] := List.length_eq_zero_iff.1 (by rw [List.length_dropLast]; omega)
    rw [this]
    rfl
  · unfold upsS
    rw [h]
    rfl
theorem path_inj {i j : Nat} (hi : i < 510) (hj : j < 510) (h : pathN i = pathN j) : i = j := by
  have h1 := congrArg (fun s : ByteArray => s.data.toList) h
  unfold pathN decS at h1
  simp at h1
  rw [← (path_one hi).2.1, ← (path_one hj).2.1, h1]
/-- all of a tree's paths have one part -/
def Flat (xs : List NE) : Prop := ∀ e ∈ xs, (partsS e.1).length = 1
theorem flat_holds {xs : List NE} (h : Flat xs) (p : ByteArray) : holdsT xs p = false := by
  unfold holdsT
  cases hf : (xs.drop (lbN ordS p xs)).find? (fun e => !decide (e.1 = p)) with
  | none => rfl
  | some e =>
    have := List.mem_of_find?_eq_some hf
    show inS (upsS e.1) p = false
    rw [(one_right (h e (List.mem_of_mem_drop this))).2.2]
    rfl
theorem Flat.put {xs : List NE} (h : Flat xs) {p : ByteArray} (hp : (partsS p).length = 1) (n : Nd) : Flat (putN ordS p n xs) := fun e he => by
  rcases put_mem p n xs e he with rfl | he
  · exact hp
  · exact h e he
theorem Flat.drop {xs : List NE} (h : Flat xs) (p : ByteArray) : Flat (dropN ordS p xs) := fun e he => h e (drop_mem p xs e he)
/-- a path of one part: may a node be put there? -/
theorem may_one {xs : List NE} {p : ByteArray} {n : Nd} (hf : Flat xs) (hp : (partsS p).length = 1) (h0 : ¬ n.kind = 0) (hr : nodeR n = 0) : mayT xs p n = if (getT xs p).kind = 0 ∧ 500 ≤ xs.length then 4 else 0 := by
  obtain ⟨h1, h2, _⟩ := one_right hp
  unfold mayT parentT
  rw [flat_holds hf]
  simp [h1, h2, h0, hr]
theorem drop_one {xs : List NE} {p : ByteArray} (hf : Flat xs) (hk : ¬ (getT xs p).kind = 0) : whyDrop xs p = 0 := by
  unfold whyDrop
  rw [if_neg hk, flat_holds hf]
  simp
theorem dirR : nodeR dirN = 0 := by kernel_rfl
theorem filR : nodeR filN = 0 := by kernel_rfl
/-- the tree behind i puts -/
structure FullAt (i : Nat) (xs : List NE) : Prop where
  up : Up ordS xs
  len : xs.length = min i 500
  mem : ∀ e, e ∈ xs ↔ ∃ j, j < min i 500 ∧ e = (pathN j, dirN)
theorem FullAt.zero : FullAt 0 [] := ⟨List.Pairwise.nil, rfl, fun e => ⟨(fun h => by cases h), (fun ⟨j, h, _⟩ => by omega)⟩⟩
theorem FullAt.flat {i : Nat} {xs : List NE} (h : FullAt i xs) : Flat xs := fun e he => by
  obtain ⟨j, hj, rfl⟩ := (h.mem e).1 he
  exact (path_one (by omega)).1
theorem FullAt.not {i : Nat} {xs : List NE} (h : FullAt i xs) (hi : i < 510) {k : Nat} (hk : k < 510) (hki : min i 500 ≤ k) : getN ordS (pathN k) xs = none ∧ inN ordS (pathN k) xs = false :=
  get_of_not ordS_ord fun e he hq => by
    obtain ⟨j, hj, rfl⟩ := (h.mem e).1 he
    have := path_inj (by omega) hk hq
    omega
theorem FullAt.has {i : Nat} {xs : List NE} (h : FullAt i xs) {k : Nat} (hk : k < min i 500) : getN ordS (pathN k) xs = some dirN ∧ inN ordS (pathN k) xs = true :=
  get_of_mem ordS_ord h.up ((h.mem _).2 ⟨k, hk, rfl⟩)
theorem FullAt.may {i : Nat} {xs : List NE} (h : FullAt i xs) (hi : i < 510) : mayT xs (pathN i) dirN = if i < 500 then 0 else 4 := by
  rw [may_one h.flat (path_one hi).1 (by decide) dirR]
  have hg : getT xs (pathN i) = ndZ := by unfold getT; rw [(h.not hi hi (by omega)).1]; rfl
  rw [hg, h.len]
  by_cases hlt : i < 500
  · rw [if_pos hlt, if_neg (by omega)]
  · rw [if_neg hlt, if_pos ⟨rfl, by omega⟩]
theorem FullAt.step {i : Nat} {xs : List NE} (h : FullAt i xs) (hi : i < 510) : FullAt (i + 1) (putT xs (pathN i) dirN) := by
  unfold putT
  rw [h.may hi]
  by_cases hlt : i < 500
  · rw [if_pos hlt, if_pos rfl]
    have hnot := (h.not hi hi (by omega))
    have hnew := put_new ordS_ord (pathN i) dirN xs h.up (fun x hx hq => by
      obtain ⟨j, hj, rfl⟩ := (h.mem x).1 hx
      have := path_inj (by omega) hi hq
      omega)
    refine ⟨put_up ordS_ord _ _ _ h.up, by rw [hnew.2, h.len]; omega, fun e => ?_⟩
    rw [hnew.1, h.mem]
    constructor
    · rintro (rfl | ⟨j, hj, rfl⟩)
      · exact ⟨i, by omega, rfl⟩
      · exact ⟨j, by omega, rfl⟩
    · rintro ⟨j, hj, rfl⟩
      by_cases hji : j = i
      · subst hji; exact .inl rfl
      · exact .inr ⟨j, by omega, rfl⟩
  · rw [if_neg hlt, if_neg (by decide)]
    exact ⟨h.up, by rw [h.len]; omega, fun e => by rw [h.mem]; rw [show min (i + 1) 500 = min i 500 by omega]⟩
theorem path7 : pathN 7 = ⟨#[110, 55]⟩ := by kernel_rfl
theorem path3 : pathN 3 = ⟨#[110, 51]⟩ := by kernel_rfl
def zzS : ByteArray := ⟨#[122, 122]⟩
def n3x : ByteArray := ⟨#[110, 51, 47, 120]⟩
theorem zz_one : (partsS zzS).length = 1 := by kernel_rfl
theorem n3x_right : rightL n3x.data.toList = true := by kernel_rfl
theorem n3x_parent : parentS n3x = pathN 3 := by kernel_rfl
theorem zz_not {j : Nat} (h : j < 510) : pathN j ≠ zzS := fun e => by
  have h1 := congrArg (fun s : ByteArray => s.data.toList) e
  unfold pathN zzS at h1
  simp at h1
/-- what the end of TreeFull tells -/
theorem full_end {k : Nat} {xs : List NE} (h : FullAt k xs) (hk : 490 ≤ k) (hk2 : k < 510) :
    mayT xs (pathN 7) filN = 0 ∧ getT (putT xs (pathN 7) filN) (pathN 7) = filN ∧
    whyDrop (putT xs (pathN 7) filN) (pathN 3) = 0 ∧
    mayT (dropT (putT xs (pathN 7) filN) (pathN 3)) n3x dirN = 7 ∧
    putT (dropT (putT xs (pathN 7) filN) (pathN 3)) n3x dirN = dropT (putT xs (pathN 7) filN) (pathN 3) ∧
    mayT (dropT (putT xs (pathN 7) filN) (pathN 3)) zzS dirN = 0 ∧
    (putT (dropT (putT xs (pathN 7) filN) (pathN 3)) zzS dirN).length = min k 500 := by
  have h7 := h.has (k := 7) (by omega)
  have h3 := h.has (k := 3) (by omega)
  have m7 : mayT xs (pathN 7) filN = 0 := by
    rw [may_one h.flat (path_one (by omega)).1 (by decide) filR]
    have hg : getT xs (pathN 7) = dirN := by unfold getT; rw [h7.1]; rfl
    rw [hg, if_neg (by rintro ⟨e, _⟩; cases e)]
  have p7 : putT xs (pathN 7) filN = putN ordS (pathN 7) filN xs := by unfold putT; rw [if_pos m7]
  rw [p7]
  obtain ⟨ys, hys⟩ : ∃ ys, putN ordS (pathN 7) filN xs = ys := ⟨_, rfl⟩
  have hyu : Up ordS ys := by rw [← hys]; exact put_up ordS_ord _ _ _ h.up
  have hyf : Flat ys := by rw [← hys]; exact h.flat.put (path_one (by omega)).1 _
  have hyl : ys.length = min k 500 := by rw [← hys, put_len, if_pos h7.2, h.len]
  have hyg : getN ordS (pathN 7) ys = some filN := by rw [← hys]; exact get_put ordS_ord _ _ _
  have hne : pathN 3 ≠ pathN 7 := fun e => by have := path_inj (by omega) (by omega) e; omega
  have hy3 : (pathN 3, dirN) ∈ ys := by rw [← hys]; exact put_keeps ordS_ord hne ((h.mem _).2 ⟨3, by omega, rfl⟩)
  have hym : ∀ e ∈ ys, ∃ j, j < 510 ∧ e.1 = pathN j := fun e he => by
    rw [← hys] at he
    rcases put_mem _ _ _ _ he with rfl | he
    · exact ⟨7, by omega, rfl⟩
    · obtain ⟨j, hj, rfl⟩ := (h.mem e).1 he
      exact ⟨j, by omega, rfl⟩
  rw [hys]
  have g3 := get_of_mem ordS_ord hyu hy3
  have w3 : whyDrop ys (pathN 3) = 0 := drop_one hyf (by unfold getT; rw [g3.1]; exact (by decide : ¬ dirN.kind = 0))
  have d3 : dropT ys (pathN 3) = dropN ordS (pathN 3) ys := by unfold dropT; rw [if_pos w3]
  rw [d3]
  have hd := drop_filter ordS_ord (pathN 3) ys hyu
  have hdl : (dropN ordS (pathN 3) ys).length + 1 = min k 500 := by
    rw [drop_hit (pathN 3) ys g3.2, ← hyl, List.length_append, List.length_take, List.length_drop]
    have := inN_lt ordS_ord g3.2
    omega
  have hdf : Flat (dropN ordS (pathN 3) ys) := hyf.drop _
  have hdm : ∀ e ∈ dropN ordS (pathN 3) ys, e.1 ≠ pathN 3 := fun e he hq => by
    rw [hd, List.mem_filter] at he
    have := he.2
    rw [hq, ordS_ord.self] at this
    simp at this
  have hdn := get_of_not ordS_ord hdm
  obtain ⟨zs, hzs⟩ : ∃ zs, dropN ordS (pathN 3) ys = zs := ⟨_, rfl⟩
  have hzm : ∀ e ∈ zs, e.1 ≠ zzS := fun e he => by
    rw [← hzs] at he
    obtain ⟨j, hj, e1⟩ := hym e (drop_mem _ _ _ he)
    rw [e1]
    exact zz_not hj
  rw [hzs] at hdl hdf hdn ⊢
  have hzz := get_of_not ordS_ord hzm
  have m1 : mayT zs n3x dirN = 7 := by
    unfold mayT parentT
    rw [n3x_right, n3x_parent]
    have hg : getT zs (pathN 3) = ndZ := by unfold getT; rw [hdn.1]; rfl
    have hp3 : ¬ pathN 3 = ⟨#[]⟩ := by rw [path3]; intro e; cases e
    rw [hg, if_neg (by simp), if_neg (by decide), if_neg (fun e => e dirR), if_neg hp3]
    rfl
  have m2 : mayT zs zzS dirN = 0 := by
    rw [may_one hdf zz_one (by decide) dirR, if_neg (by omega)]
  refine ⟨m7, by unfold getT; rw [hyg]; rfl, w3, m1, by unfold putT; rw [m1]; rfl, m2, ?_⟩
  unfold putT
  rw [m2, if_pos rfl, put_len, hzz.2, if_neg (by simp)]
  omega
end Sw
/- The document's example of trees. -/
set_option linter.unusedVariables false
set_option linter.unusedSimpArgs false
namespace Sw
def dirL : Nd := ⟨2, 0, 0, ⟨#[]⟩⟩
def aS : ByteArray := ⟨#[97]⟩
def abS : ByteArray := ⟨#[97, 47, 98]⟩
theorem lives_may : mayT [] abS dirL = 7 ∧ mayT [] aS dirL = 0 ∧ mayT [(aS, dirL)] abS dirL = 0 := ⟨by kernel_rfl, by kernel_rfl, by kernel_rfl⟩
theorem lives_put : putT [] abS dirL = [] ∧ putT [] aS dirL = [(aS, dirL)] ∧ putT [(aS, dirL)] abS dirL = [(aS, dirL), (abS, dirL)] := ⟨by kernel_rfl, by kernel_rfl, by kernel_rfl⟩
theorem lives_par : (parentS abS).size = 1 ∧ (parentS aS).size = 0 := ⟨by kernel_rfl, by kernel_rfl⟩
end Sw
namespace Go.Proofs.YthnnnlbdbkdcaaaDoor
open Go Go.RowKit Go.Shelf
open Sw
theorem dirL_in : NdIn dirL := ⟨by decide, by decide, by decide⟩
set_option maxRecDepth 100000 in
set_option maxHeartbeats 2000000 in
theorem lives16 (w : World) : Calls Tryd.prog 11 #[] w fun e w' => e = .returned (.bool true) ∧ Below w.heap.size w w' := by
  have HN := Lib.hid (treeNew_any w)
  go_enter Tryd.func11, Tryd.ntmps11
  go_wp2_with fail
  refine HN.out.mono ?_
  rintro e w1 ⟨bt, bm, rfl, ht, hbt, hbm, hb1⟩
  have h1 := treePut_any w1 bt bm [] abS dirL ht (by decide) (by decide) (by rw [lives_par.1]; omega) dirL_in
  rw [lives_may.1, lives_put.1] at h1
  simp only [Nd.c, dirL, abS] at h1
  have H1 := Lib.hid h1
  have HB1 := Lib.hid hb1; clear h1 hb1 ht HN
  go_wp2_with fail
  refine H1.out.mono ?_
  rintro e w2 ⟨rfl, ht, hg2⟩
  have HB2 := Lib.hid (below_grown HB1.out hg2 hbm HB1.out.size)
  have h1 := treePut_any w2 bt bm [] aS dirL ht (by decide) (by decide) (by rw [lives_par.2]; omega) dirL_in
  rw [lives_may.2.1, lives_put.2.1] at h1
  simp only [Nd.c, dirL, aS] at h1
  have H2 := Lib.hid h1; clear h1 hg2 ht H1 HB1
  go_wp2_with fail
  refine H2.out.mono ?_
  rintro e w3 ⟨rfl, ht, hg3⟩
  have HB3 := Lib.hid (below_grown HB2.out hg3 hbm HB2.out.size)
  have h1 := treePut_any w3 bt bm [(aS, dirL)] abS dirL ht (by decide) (by decide) (by rw [lives_par.1]; omega) dirL_in
  rw [lives_may.2.2, lives_put.2.2] at h1
  simp only [Nd.c, dirL, abS] at h1
  have H3 := Lib.hid h1; clear h1 hg3 ht H2 HB2
  go_wp2_with fail
  refine H3.out.mono ?_
  rintro e w4 ⟨rfl, ht, hg4⟩
  have HB4 := Lib.hid (below_grown HB3.out hg4 hbm HB3.out.size)
  have H4 := Lib.hid ((treeLen_any w4 bt bm _ ht).mono (fun e w' h => (⟨h.1, h.2⟩ : e = .returned (.int .i64 2) ∧ w4 = w'))); clear hg4 ht H3 HB3
  go_wp2_with fail
  refine H4.out.mono ?_
  rintro e w5 ⟨rfl, rfl⟩
  go_wp2_with fail
  go_ret
  exact ⟨rfl, HB4.out⟩
end Go.Proofs.YthnnnlbdbkdcaaaDoor
/- The main walk of TreeFull. -/
set_option linter.unusedVariables false
set_option linter.unusedSimpArgs false
namespace Go.Proofs.YthnnnlbdbkdcaaaDoor
open Go Go.RowKit Go.Shelf
open Sw
theorem dirN_in : NdIn dirN := ⟨by decide, by decide, by decide⟩
theorem filN_in : NdIn filN := ⟨by decide, by decide, by decide⟩
theorem fullPut_any (w : World) (bt bm i : Nat) (xs : List NE) (h : TreeAt w bt bm xs) (hf : FullAt i xs) (hi : i < 510) :
    Calls Tryd.prog 6 #[.pointer (some ⟨bt, 0, none⟩), .string (⟨#[110]⟩ ++ decS i), .agg #[.int .i64 2, .int .i64 0, .int .u32 0, .string ⟨#[]⟩]] w fun e w' => e = .returned (.int .i64 (if i < 500 then 0 else 4)) ∧ (∃ ys, TreeAt w' bt bm ys ∧ FullAt (i + 1) ys) ∧ w.grownBy w' (some bm) := by
  have hp := path_one hi
  have := treePut_any w bt bm xs (pathN i) dirN h (by rw [hf.len]; omega) (by omega) (by rw [(one_right hp.1).2.1]; decide) dirN_in
  rw [hf.may hi] at this
  exact this.mono fun e w' ⟨h1, h2, h3⟩ => ⟨h1, ⟨_, h2, hf.step hi⟩, h3⟩
set_option maxRecDepth 100000 in
set_option maxHeartbeats 8000000 in
theorem treeFull_main (w : World) (n : Nat) (hn : n < 18446744073709551616) :
    Calls Tryd.prog 3 #[.int .u64 n] w fun e w' => e = .returned (.bool true) ∧ Below w.heap.size w w' := by
  have HNW := Lib.hid (treeNew_any w)
  have hLV := Lib.hid (fun W => lives16 W)
  obtain ⟨k, hk, hk1, hk2⟩ : ∃ k : Nat, 490 + (n : Int) % 20 = k ∧ 490 ≤ k ∧ k < 510 := ⟨490 + n % 20, by omega, by omega, by omega⟩
  go_enter Tryd.func3, Tryd.ntmps3
  go_wp2_with fail
  refine HNW.out.mono ?_
  rintro e w1 ⟨bt, bm, rfl, ht, hbt, hbm, hb1⟩
  have HT := Lib.hid (And.intro ht hb1); clear ht hb1 HNW
  go_wp2_with fail
  have HKN := Lib.hid hk; clear hk
  go_loopw [5, 6, 13] (fun _ _ iv wr => ∃ (i : Nat) (xs : List NE), i ≤ k ∧ iv = .int .i64 i ∧ TreeAt wr bt bm xs ∧ FullAt i xs ∧ Below w.heap.size w wr) (fun _ _ iv _ => k - (intOf iv).toNat)
  case atStart => exact ⟨0, [], Nat.zero_le _, rfl, HT.out.1, FullAt.zero, HT.out.2⟩
  case round =>
    obtain ⟨i, xs, hi, rfl, ht, hf, hb⟩ := hrel
    by_cases hlt : i < k
    · have hi1 : (i : Int) < k := by omega
      have HD := Lib.hid (dec_any wr i (by omega))
      have HP := Lib.hid (fun W (hb : Below wr.heap.size wr W) => fullPut_any W bt bm i xs (ht.below hb) hf (by omega))
      have HB := Lib.hid hb
      have hds : (decS i).size ≤ 10 := by
        have := (path_one (i := i) (by omega)).2.2
        unfold pathN at this
        simp at this
        omega
      clear ht hf hb
      go_wp2_with fail
      refine HD.out.mono ?_
      rintro e w2 ⟨rfl, hb2⟩
      have HP2 := Lib.hid (HP.out w2 hb2)
      have HB2 := Lib.hid (HB.out.trans (hb2.mono HB.out.size)); clear hb2 HP HD
      by_cases h5 : i < 500
      · rw [if_pos h5] at HP2
        have h5i : (i : Int) < 500 := by omega
        go_wp2_with fail
        refine HP2.out.mono ?_
        rintro e w3 ⟨rfl, ⟨ys, ht, hf⟩, hg⟩
        have HF := Lib.hid (And.intro ht (And.intro hf (below_grown HB2.out hg hbm HB2.out.size))); clear ht hf hg
        go_wp2_with fail
        go_roundw
        case rel => exact ⟨i + 1, ys, by omega, by go_num, HF.out.1, HF.out.2.1, HF.out.2.2⟩
        case measure => simp [intOf]; omega
      · rw [if_neg h5] at HP2
        have h5i : ¬ (i : Int) < 500 := by omega
        go_wp2_with fail
        refine HP2.out.mono ?_
        rintro e w3 ⟨rfl, ⟨ys, ht, hf⟩, hg⟩
        have HF := Lib.hid (And.intro ht (And.intro hf (below_grown HB2.out hg hbm HB2.out.size))); clear ht hf hg
        go_wp2_with fail
        go_roundw
        case rel => exact ⟨i + 1, ys, by omega, by go_num, HF.out.1, HF.out.2.1, HF.out.2.2⟩
        case measure => simp [intOf]; omega
    · obtain rfl : i = k := by omega
      obtain ⟨L, hL⟩ : ∃ L, min i 500 = L := ⟨_, rfl⟩
      have hmn : min (i : Int) 500 = L := by omega
      obtain ⟨e1, e2, e3, e4, e5, e6, e7⟩ := full_end hf hk1 hk2
      have hlen := hf.len
      rw [hL] at e7 hlen
      have h1 := treePut_any
      have HLX := Lib.hid (treeLen_any wr bt bm xs ht)
      rw [hlen] at HLX
      have p1 := treePut_any wr bt bm xs (pathN 7) filN ht (by omega) (by rw [path7]; decide) (by rw [(one_right (path_one (by omega)).1).2.1]; decide) filN_in
      rw [e1] at p1
      have hl1 := putT_len xs (pathN 7) filN
      have p2 := fun W h => treeGet_any W bt bm (putT xs (pathN 7) filN) (pathN 7) h (by omega) (by rw [path7]; decide)
      simp only [e2] at p2
      have p3 := fun W h => treeDrop_any W bt bm (putT xs (pathN 7) filN) (pathN 3) h (by omega) (by rw [path3]; decide)
      simp only [e3] at p3
      have hl2 := dropT_len (putT xs (pathN 7) filN) (pathN 3)
      have p4 := fun W h => treePut_any W bt bm (dropT (putT xs (pathN 7) filN) (pathN 3)) n3x dirN h (by omega) (by decide) (by rw [n3x_parent, path3]; decide) dirN_in
      simp only [e4, e5] at p4
      have p5 := fun W h => treePut_any W bt bm (dropT (putT xs (pathN 7) filN) (pathN 3)) zzS dirN h (by omega) (by decide) (by rw [(one_right zz_one).2.1]; decide) dirN_in
      simp only [e6] at p5
      have p6 := fun W h => treeLen_any W bt bm (putT (dropT (putT xs (pathN 7) filN) (pathN 3)) zzS dirN) h
      simp only [e7] at p6
      rw [path7] at p1
      simp only [path7, path3] at p2 p3 p4 p5 p6
      simp only [Nd.c, filN, dirN, n3x, zzS] at p1 p2 p3 p4 p5 p6
      have P1 := Lib.hid p1
      have P2 := Lib.hid p2
      have P3 := Lib.hid p3
      have P4 := Lib.hid p4
      have P5 := Lib.hid p5
      have P6 := Lib.hid p6
      have HB := Lib.hid hb
      have hfld := nodeField3
      clear p1 p2 p3 p4 p5 p6 e1 e2 e3 e4 e5 e6 e7 hl1 hl2 h1 hf ht hb hlen hL
      go_wp2_with fail
      refine HLX.out.mono ?_
      rintro e w2 ⟨rfl, rfl⟩
      go_wp2_with fail
      refine P1.out.mono ?_
      rintro e w3 ⟨rfl, ht, hg⟩
      have H3 := Lib.hid (And.intro ht (below_grown HB.out hg hbm HB.out.size)); clear ht hg
      have P2' := Lib.hid (P2.out w3 H3.out.1)
      go_wp2_with fail
      refine P2'.out.mono ?_
      rintro e w4 ⟨rfl, hb⟩
      have H4 := Lib.hid (And.intro (H3.out.1.below hb) (H3.out.2.trans (hb.mono H3.out.2.size))); clear hb
      have P3' := Lib.hid (P3.out w4 H4.out.1)
      go_wp2_with fail
      refine P3'.out.mono ?_
      rintro e w5 ⟨rfl, ht, hg⟩
      have H5 := Lib.hid (And.intro ht (below_grown H4.out.2 hg hbm H4.out.2.size)); clear ht hg
      have P4' := Lib.hid (P4.out w5 H5.out.1)
      go_wp2_with fail
      refine P4'.out.mono ?_
      rintro e w6 ⟨rfl, ht, hg⟩
      have H6 := Lib.hid (And.intro ht (below_grown H5.out.2 hg hbm H5.out.2.size)); clear ht hg
      have P5' := Lib.hid (P5.out w6 H6.out.1)
      go_wp2_with fail
      refine P5'.out.mono ?_
      rintro e w7 ⟨rfl, ht, hg⟩
      have H7 := Lib.hid (And.intro ht (below_grown H6.out.2 hg hbm H6.out.2.size)); clear ht hg
      have P6' := Lib.hid (P6.out w7 H7.out.1)
      go_wp2_with fail
      refine P6'.out.mono ?_
      rintro e w8 ⟨rfl, rfl⟩
      go_wp2_with fail
      refine (hLV.out w7).mono ?_
      rintro e w9 ⟨rfl, hb⟩
      have H9 := Lib.hid (H7.out.2.trans (hb.mono H7.out.2.size)); clear hb
      go_wp2_with fail
      go_ret
      exact ⟨rfl, H9.out⟩
end Go.Proofs.YthnnnlbdbkdcaaaDoor
/- The walk of TreeFull in the statement's form. -/
set_option linter.unusedVariables false
set_option linter.unusedSimpArgs false
namespace Go.Proofs.YthnnnlbdbkdcaaaDoor
open Go Go.ChangeShapes Go.WideShapes Go.ChangeAt Go.RowKit Go.Shelf
open Sw
set_option maxRecDepth 100000 in
theorem treeFull_walk : Walks 3 Tryd.f3 := by
  intro H enc W base args ds ps hval hA hlt hsz
  rw [Tryd.params3] at hA hval
  obtain ⟨v0, d0, rfl, rfl, h0⟩ := trodAll_one hA
  obtain ⟨m, rfl, rfl, rfl, wm⟩ := open_int Tryd.underlying22 (hval 0 22 v0 rfl rfl) h0
  obtain ⟨m0, m1⟩ := bounds_u64 wm
  obtain ⟨n, rfl⟩ := Int.eq_ofNat_of_zero_le m0
  exact treeFull_main W n (by omega)
end Go.Proofs.YthnnnlbdbkdcaaaDoor
