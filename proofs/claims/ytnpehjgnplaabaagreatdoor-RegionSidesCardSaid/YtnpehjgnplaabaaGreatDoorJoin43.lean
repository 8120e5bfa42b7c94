/- Several texts, joined for the limit of sixty files; each one opens with its own comment. -/
import Derived.Test.YtnpehjgnplaabaaGreatDoorJoin33
import Derived.Test.YtnpehjgnplaabaaGreatDoorJoin35
import Derived.Test.YtnpehjgnplaabaaGreatDoorJoin40
import Derived.Test.YtnpehjgnplaabaaGreatDoorJoin41
import Derived.Test.YtnpehjgnplaabaaGreatDoorJoin42
import Derived.Test.YtnpehjgnplaabaaGreatDoorJoin26
/- Several texts, joined for the limit of sixty files; each one opens with its own comment. -/
/- region.Resolve. -/
set_option linter.unusedVariables false
set_option linter.unusedSimpArgs false
namespace Go.Proofs.YtnpehjgnplaabaaGreatDoor
open Go Go.RowKit
open Sw
/-- a clash's cells -/
def eCl (c : ByteArray × Int) : List Value := [.string c.1, .int .i64 c.2]
theorem eCl_len (c : ByteArray × Int) : (eCl c).length = 2 := rfl
theorem infoCl : (Tryz.prog.info? 66).map (fun i => (i.zero, i.size, i.bytes)) = some (some (.agg #[.string ⟨#[]⟩, .int .i64 0]), 2, 24) := by kernel_rfl
theorem mapI0 (w : World) : (zeroValue 3).run Tryz.prog w = .ok (.int .i64 0) w := by kernel_rfl
/-- a result: two trees, what is known, what clashed, what is put as a whole -/
structure ResIs (w' : World) (E : List NP × List ByteArray) (L : List MkE) (v : Value) : Prop where
  ex : ∃ tl ml tr mr ua uh uc ug b1 b2 b3, v = .agg #[.pointer (some ⟨tl, 0, none⟩), .pointer (some ⟨tr, 0, none⟩), ua, uh, uc, ug] ∧ TreeAt w' tl ml (leftN E.1) ∧ TreeAt w' tr mr (rightN E.1) ∧
    OwnMk w' b1 ua (agreeM (marksT (leftN E.1)) (marksT (rightN E.1))) ∧ OwnMk w' b1 uh (heldN L E.1) ∧ w'.ownsRow b2 66 2 uc (clashN E.1).length ((clashN E.1).flatMap eCl) ∧ w'.ownsRow b3 9 1 ug E.2.length (E.2.map Value.string)
theorem one_mem {f : NP → Nd} {l : List NP} {e : NE} (h : e ∈ l.flatMap fun n => oneN n.path (f n)) : ∃ n ∈ l, e = (n.path, f n) := by
  obtain ⟨n, hn, he⟩ := List.mem_flatMap.1 h
  unfold oneN at he
  split at he
  · cases he
  · exact ⟨n, hn, List.mem_singleton.1 he⟩
theorem ndZ_in : NdIn ndZ := ⟨by decide, by decide, by decide⟩
theorem getT_nd {xs : List NE} {p : ByteArray} (hu : Up ordS xs) (h : ∀ e ∈ xs, NdIn e.2) : NdIn (getT xs p) := by
  rcases Classical.em (∃ e ∈ xs, e.1 = p) with ⟨e, he, rfl⟩ | hn
  · rw [getT_in hu he]; exact h e he
  · rw [getT_out hu (fun e he h => hn ⟨e, he, h⟩)]; exact ndZ_in
theorem _root_.Go.Proofs.YtnpehjgnplaabaaGreatDoor.TreeAt.sameR {W W' : World} {bt bm g : Nat} {xs : List NE} {t : TypeId} {cs : Array Value} (h : TreeAt W bt bm xs) (hB : Blk W g t cs) (h1 : 110 ≠ t) (h2 : 139 ≠ t) (h3 : 146 ≠ t) (hs : ∀ i, i ≠ g → W'.heap[i]? = W.heap[i]?) : TreeAt W' bt bm xs := by
  obtain ⟨v, hb, ho⟩ := h.map.row
  refine ⟨(hs bt (fun e => Blk.other h.box hB h1 (by rw [e]))).trans h.box, ⟨v, (hs bm (fun e => Blk.other hb hB h2 (by rw [e]))).trans hb, own_sameB ho (fun g' hg' => hs g' (fun e => ?_))⟩, h.map.up, h.map.ok⟩
  obtain ⟨cur, hc⟩ := own_blkB ho hg'
  exact Blk.other hc hB h3 (by rw [e])
theorem ResIs.same {w' w2 : World} {E : List NP × List ByteArray} {L : List MkE} {v : Value} (h : ResIs w' E L v) {g : Nat} {cs : Array Value} (hB : Blk w' g 36 cs) (hs : ∀ i, i ≠ g → w2.heap[i]? = w'.heap[i]?) : ResIs w2 E L v := by
  obtain ⟨tl, ml, tr, mr, ua, uh, uc, ug, b1, b2, b3, rfl, h1, h2, h3, h4, h5, h6⟩ := h.ex
  have hown : ∀ (t : TypeId) (s bs n : Nat) (u : Value) (L : List Value), t ≠ 36 → w'.ownsRow bs t s u n L → w2.ownsRow bs t s u n L := fun t s bs n u L ht ho => own_sameB ho (fun g' hg' => hs g' (fun e => by
    obtain ⟨cur, hc⟩ := own_blkB ho hg'
    exact Blk.other hc hB ht (by rw [e])))
  exact ⟨⟨tl, ml, tr, mr, ua, uh, uc, ug, b1, b2, b3, rfl, h1.sameR hB (by decide) (by decide) (by decide) hs, h2.sameR hB (by decide) (by decide) (by decide) hs, hown _ _ _ _ _ _ (by decide) h3, hown _ _ _ _ _ _ (by decide) h4, hown _ _ _ _ _ _ (by decide) h5, hown _ _ _ _ _ _ (by decide) h6⟩⟩
theorem ResIs.below {w' w2 : World} {E : List NP × List ByteArray} {L : List MkE} {v : Value} (h : ResIs w' E L v) (hb : Below w'.heap.size w' w2) : ResIs w2 E L v := by
  obtain ⟨tl, ml, tr, mr, ua, uh, uc, ug, b1, b2, b3, rfl, h1, h2, h3, h4, h5, h6⟩ := h.ex
  exact ⟨⟨tl, ml, tr, mr, ua, uh, uc, ug, b1, b2, b3, rfl, h1.below hb, h2.below hb, h3.below hb, h4.below hb, own_kept h5 hb, own_kept h6 hb⟩⟩
/-- its cells -/
theorem ResIs.agg {w' : World} {E : List NP × List ByteArray} {L : List MkE} {v : Value} (h : ResIs w' E L v) : ∃ tl tr A1 n1 c1 A2 n2 c2 A3 n3 c3 A4 n4 c4, v = .agg #[.pointer (some ⟨tl, 0, none⟩), .pointer (some ⟨tr, 0, none⟩), .slice A1 n1 c1, .slice A2 n2 c2, .slice A3 n3 c3, .slice A4 n4 c4] := by
  obtain ⟨tl, ml, tr, mr, ua, uh, uc, ug, b1, b2, b3, rfl, h1, h2, h3, h4, h5, h6⟩ := h.ex
  obtain ⟨A1, c1, rfl, -, -, -⟩ := SlV_of_any h3
  obtain ⟨A2, c2, rfl, -, -, -⟩ := SlV_of_any h4
  obtain ⟨A3, c3, rfl, -, -, -⟩ := SlV_of_any h5
  obtain ⟨A4, c4, rfl, -, -, -⟩ := SlV_of_any h6
  exact ⟨_, _, _, _, _, _, _, _, _, _, _, _, _, _, rfl⟩
set_option maxRecDepth 100000 in
set_option maxHeartbeats 32000000 in
theorem regResolve_any (w : World) (u1 u2 : Value) (l1 l2 : List MkE) (bt bm bt2 bm2 : Nat) (xs ys : List NE) (policy : Int) (h1 : SlV w 6 eCM u1 l1) (h2 : SlV w 6 eCM u2 l2) (hl1 : l1.length ≤ 100) (hl2 : l2.length ≤ 100) (hm1 : ∀ m ∈ l1, MkInA m) (hm2 : ∀ m ∈ l2, MkInA m)
    (hT : TreeAt w bt bm xs) (hT2 : TreeAt w bt2 bm2 ys) (hxl : xs.length ≤ 50) (hyl : ys.length ≤ 50) (hxi : TI xs) (hyi : TI ys) (hxn : ∀ e ∈ xs, NdIn e.2) (hyn : ∀ e ∈ ys, NdIn e.2)
    (hok : (0 ≤ policy ∧ policy ≤ 3) ∧ rightM l1 l2 = true) :
    Calls Tryz.prog 8 #[.agg #[u1, u2], .pointer (some ⟨bt, 0, none⟩), .pointer (some ⟨bt2, 0, none⟩), .int .i64 policy] w fun e w' => (∃ v, e = .returned (.tuple #[v, .int .i64 0]) ∧ ResIs w' (endN policy (l1 ++ l2) xs ys) (l1 ++ l2) v) ∧ Below w.heap.size w w' := by
  obtain ⟨W, hW⟩ : ∃ W, (w.alloc (.cells #[u1, u2] 24)).alloc (.cells #[.pointer none, .pointer none, .slice none 0 0, .slice none 0 0, .slice none 0 0, .slice none 0 0] 36) = W := ⟨_, rfl⟩
  have hbW : Below w.heap.size w W := by rw [← hW]; exact ((Below.refl _ w).alloc (Nat.le_refl _) _).alloc (by simp) _
  have hBb : Blk W w.heap.size 24 #[u1, u2] := by rw [← hW]; exact blk_fst _ _ _ _
  have hBr : Blk W (w.heap.size + 1) 36 #[.pointer none, .pointer none, .slice none 0 0, .slice none 0 0, .slice none 0 0, .slice none 0 0] := by rw [← hW]; exact blk_snd _ _ _ _
  obtain ⟨B0, hB0⟩ : ∃ n, W.heap.size = n := ⟨_, rfl⟩
  have hB0s : B0 = w.heap.size + 1 + 1 := by rw [← hB0, ← hW]; simp
  have HPO := Lib.hid (fun V => regPolicy_any V policy)
  have HAR := Lib.hid (fun V (hV : Below w.heap.size w V) => archRight_any V u1 u2 l1 l2 (h1.below hV (Nat.le_refl _)) (h2.below hV (Nat.le_refl _)) (by omega) (by omega) hm1 hm2)
  rw [decide_eq_true hok.1] at HPO
  rw [hok.2] at HAR
  have hxd : ∀ e ∈ xs, e.2.data.size ≤ maxLen := fun e he => (hxn e he).size
  have hyd : ∀ e ∈ ys, e.2.data.size ≤ maxLen := fun e he => (hyn e he).size
  have HIN := Lib.hid (And.intro (fun V (hV : Below w.heap.size w V) => And.intro (h1.below hV (Nat.le_refl _)) (And.intro (h2.below hV (Nat.le_refl _)) (And.intro (hT.below hV) (hT2.below hV)))) (And.intro hm1 hm2))
  have HTI := Lib.hid (And.intro (And.intro hxi hyi) (And.intro (And.intro hxn hyn) (And.intro hxd hyd)))
  have HL := Lib.hid (And.intro (And.intro hl1 hl2) (And.intro hxl hyl))
  have q0 := hBb.cell 0
  have q1 := hBb.cell 1
  simp only [List.getElem?_toArray, List.getElem?_cons_succ, List.getElem?_cons_zero] at q0 q1
  obtain ⟨A1, c1, rfl, -, -, -⟩ := h1
  obtain ⟨A2, c2, rfl, -, -, -⟩ := h2
  obtain ⟨n1, hn1⟩ : ∃ n, l1.length = n := ⟨_, rfl⟩
  obtain ⟨n2, hn2⟩ : ∃ n, l2.length = n := ⟨_, rfl⟩
  have H0 := Lib.hid (And.intro hbW (And.intro hBb (And.intro hBr (And.intro hB0 hB0s))))
  have HW := Lib.hid hW
  simp only [hn1, hn2] at HW H0 HAR HIN q0 q1 ⊢
  clear hbW hBb hBr hB0 hW hok hm1 hm2 hT hT2 hxi hyi hxn hyn hxd hyd hn1 hn2
  go_enter Tryz.func8, Tryz.ntmps8
  go_upto_region 1 with fail
  rw [HW.out]
  go_wp2_with fail
  refine (HPO.out W).mono ?_
  rintro e w1 ⟨rfl, rfl⟩
  go_wp2_with fail
  refine (HAR.out w1 H0.out.1).mono ?_
  rintro e w2 ⟨rfl, hb2⟩
  have h0w2 : Below w.heap.size w w2 := H0.out.1.trans (hb2.mono H0.out.1.size)
  have hW2 : B0 ≤ w2.heap.size := by rw [← H0.out.2.2.2.1]; exact hb2.size
  have hbb2 := H0.out.2.1.below hb2 H0.out.2.1.lt
  have hbr2 := H0.out.2.2.1.below hb2 H0.out.2.2.1.lt
  have H2 := Lib.hid (And.intro h0w2 (And.intro hW2 (And.intro hbb2 hbr2)))
  clear hb2 h0w2 hbb2 hbr2 q0 q1 HAR HPO HW
  go_upto_region 3 with fail
  obtain ⟨gc, hgc⟩ : ∃ n, w2.heap.size = n := ⟨_, rfl⟩
  obtain ⟨W3, hW3⟩ : ∃ X, (w2.alloc (.map #[] 0)).alloc (.cells #[.pointer (some ⟨bt, 0, none⟩), .pointer (some ⟨bt2, 0, none⟩), .int .i64 policy, .slice none 0 0, .map none, .map none, .map (some gc), .slice none 0 0] 76) = X := ⟨_, rfl⟩
  have hgs3 : (w2.alloc (.map #[] 0)).heap.size = gc + 1 := by simp [hgc]
  have hb23 : Below w2.heap.size w2 W3 := by rw [← hW3]; exact ((Below.refl _ w2).alloc (Nat.le_refl _) _).alloc (by simp) _
  have hs3 : W3.heap.size = gc + 1 + 1 := by rw [← hW3]; simp [hgc]
  have hB3 : Blk W3 (gc + 1) 76 #[.pointer (some ⟨bt, 0, none⟩), .pointer (some ⟨bt2, 0, none⟩), .int .i64 policy, .slice none 0 0, .map none, .map none, .map (some gc), .slice none 0 0] := by rw [← hW3, ← hgs3]; exact Blk.new _ _ _
  have hm3 : MapV W3 Tryz.prog 9 litT okT gc 0 (fun _ => none) := by
    have h9 := MapV.made (α := ByteArray) w2 Tryz.prog 9 litT okT
    rw [hgc] at h9
    have h10 := h9.below ((Below.refl _ _).alloc (Nat.le_refl _) (.cells #[.pointer (some ⟨bt, 0, none⟩), .pointer (some ⟨bt2, 0, none⟩), .int .i64 policy, .slice none 0 0, .map none, .map none, .map (some gc), .slice none 0 0] 76)) h9.lt
    rw [hW3] at h10
    exact h10
  have H3 := Lib.hid (And.intro hb23 (And.intro hs3 (And.intro hB3 (And.intro hm3 hgc))))
  have HW3 := Lib.hid (And.intro hW3 (And.intro hgs3 hgc))
  clear hb23 hs3 hB3 hm3 hW3 hgs3
  have hmm := @run_makeMap Tryz.prog
  go_upto_region 4 with fail
  try simp only [World.size_alloc, HW3.out.2.2]
  rw [HW3.out.1]
  clear hgc
  go_wp2_with fail
  go_loopw [39] (fun iv wr => ∃ (i : Nat) (v4 v5 : Value), i ≤ 2 ∧ iv = .int .i64 i ∧ Below w2.heap.size w2 wr ∧ wr.heap.size = gc + 1 + 1 + i ∧ Blk wr (gc + 1) 76 #[.pointer (some ⟨bt, 0, none⟩), .pointer (some ⟨bt2, 0, none⟩), .int .i64 policy, .slice none 0 0, v4, v5, .map (some gc), .slice none 0 0] ∧ MapV wr Tryz.prog 9 litT okT gc 0 (fun _ => none) ∧ (1 ≤ i → v4 = .map (some (gc + 1 + 1)) ∧ MapV wr Tryz.prog 9 litT okT (gc + 1 + 1) 0 (fun _ => none)) ∧ (2 ≤ i → v5 = .map (some (gc + 1 + 1 + 1)) ∧ MapV wr Tryz.prog 9 litT okT (gc + 1 + 1 + 1) 0 (fun _ => none))) (fun iv _ => 2 - (intOf iv).toNat)
  case atStart => exact ⟨0, _, _, by omega, rfl, H3.out.1, H3.out.2.1, H3.out.2.2.1, H3.out.2.2.2.1, fun h => (by omega), fun h => (by omega)⟩
  case round =>
    obtain ⟨i, v4, v5, hi, rfl, hbr, hsz, hBx, hmx, hA, hB⟩ := hrel
    by_cases hi2 : i = 2
    · subst hi2
      obtain ⟨e4, hm4⟩ := hA (by omega)
      obtain ⟨e5, hm5⟩ := hB (by omega)
      subst e4 e5
      have hgc := H3.out.2.2.2.2
      have h0r : Below w.heap.size w wr := H2.out.1.trans (hbr.mono H2.out.1.size)
      have hB0w : w.heap.size ≤ B0 := by have := H0.out.2.2.2.2; omega
      have hRg : RgAt B0 wr (gc + 1) bt bt2 (gc + 1 + 1) (gc + 1 + 1 + 1) gc 0 policy (.slice none 0 0) (.slice none 0 0) [] [] :=
        ⟨hBx, hm4, hm5, hmx, World.ownsRow_nil _ _ _ _, World.ownsRow_nil _ _ _ _, by omega, by omega, by omega, fun g h _ => by simp [Value.ownBlock] at h, by have := H2.out.2.1; omega, by have := H2.out.2.1; omega, by have := H2.out.2.1; omega, by have := H2.out.2.1; omega⟩
      have hbb4 := H2.out.2.2.1.below hbr H2.out.2.2.1.lt
      have hbr4 := H2.out.2.2.2.below hbr H2.out.2.2.2.lt
      have x0 := hbb4.cell 0
      have x1 := hbb4.cell 1
      simp only [List.getElem?_toArray, List.getElem?_cons_succ, List.getElem?_cons_zero] at x0 x1
      have HFI := Lib.hid (regFirst_any B0 wr (gc + 1) bt bm bt2 bm2 (gc + 1 + 1) (gc + 1 + 1 + 1) gc policy (.slice A1 n1 c1) (.slice A2 n2 c2) l1 l2 xs ys hRg (fun U hU => (HIN.out.1 U (h0r.trans (hU.mono hB0w))).2.2.1) (fun U hU => (HIN.out.1 U (h0r.trans (hU.mono hB0w))).2.2.2) (fun U hU => (HIN.out.1 U (h0r.trans (hU.mono hB0w))).1) (fun U hU => (HIN.out.1 U (h0r.trans (hU.mono hB0w))).2.1) (by have := HL.out.1.1; omega) (by have := HL.out.1.2; omega) (fun m hm => (HIN.out.2.1 m hm).1) (fun m hm => (HIN.out.2.2 m hm).1) (by have := HL.out.2.1; omega) (by have := HL.out.2.2; omega) HTI.out.2.2.1 HTI.out.2.2.2)
      have H4 := Lib.hid (And.intro h0r (And.intro hB0w (And.intro hbb4 (And.intro hbr4 (show B0 ≤ wr.heap.size by have := H2.out.2.1; have := hbr.size; omega)))))
      clear hbr hsz hBx hmx hA hB hm4 hm5 h0r hRg hbb4 hbr4
      generalize wr = w4 at *
      go_wp2_with fail
      refine HFI.out.mono ?_
      rintro e w5 ⟨rfl, pv5, hR5, hb5⟩
      obtain ⟨L0, hL0⟩ : ∃ L, beginN policy (l1 ++ l2) xs ys = L := ⟨_, rfl⟩
      have hLl := begin_len policy (l1 ++ l2) xs ys
      have hLp := begin_path policy (l1 ++ l2) xs ys
      have hLs := begin_sh policy (l1 ++ l2) xs ys
      have hEN : endN policy (l1 ++ l2) xs ys = Sw.runN policy xs ys (beginN policy (l1 ++ l2) xs ys) (beginN policy (l1 ++ l2) xs ys).length := rfl
      have hxz : ∀ e ∈ xs, e.1.size ≤ 90000 := fun e he => ((HIN.out.1 w (Below.refl _ _)).2.2.1).ok (n := e.2) he
      have hyz : ∀ e ∈ ys, e.1.size ≤ 90000 := fun e he => ((HIN.out.1 w (Below.refl _ _)).2.2.2).ok (n := e.2) he
      have hLz : ∀ q ∈ (beginN policy (l1 ++ l2) xs ys).map NP.path, q.size ≤ 90000 := fun q hq => by
        rw [hLp, pathsS_mem, List.mem_append, List.mem_append] at hq
        rcases hq with (hp | hp) | hp
        · obtain ⟨m, hm, rfl⟩ := List.mem_map.1 hp
          exact (List.mem_append.1 hm).elim (fun h => (HIN.out.2.1 m h).1) (fun h => (HIN.out.2.2 m h).1)
        · obtain ⟨e, he, rfl⟩ := List.mem_map.1 hp
          exact hxz e he
        · obtain ⟨e, he, rfl⟩ := List.mem_map.1 hp
          exact hyz e he
      have hLr : Rise ((beginN policy (l1 ++ l2) xs ys).map NP.path) := by rw [hLp]; exact pathsS_rise _
      have hLe : (l1 ++ l2).length ≤ 200 := by rw [List.length_append]; have := HL.out.1.1; have := HL.out.1.2; omega
      have hLTI : TI (leftN (endN policy (l1 ++ l2) xs ys).1) := left_ti policy (l1 ++ l2) HTI.out.1.1 HTI.out.1.2
      have hRTI : TI (rightN (endN policy (l1 ++ l2) xs ys).1) := right_ti policy (l1 ++ l2) HTI.out.1.1 HTI.out.1.2
      rw [hEN] at hLTI hRTI
      rw [hL0] at hR5 hLl hLs hLz hLr hLTI hRTI hEN
      obtain ⟨n, hn⟩ : ∃ n, L0.length = n := ⟨_, rfl⟩
      have hn300 : n ≤ 300 := by have := HL.out.2.1; have := HL.out.2.2; omega
      have HL0 := Lib.hid (And.intro hLs (And.intro hLz (And.intro hLr (And.intro hn (And.intro hLTI hRTI)))))
      have hrp5 := (hR5 : RgIn _ _ _ _ _ _ _ _ _ _ _ _ _ _ _ _ _).rp
      rw [List.length_map, hn] at hrp5
      obtain ⟨Ap, cp, rfl, -, hcp, -⟩ := SlV_of_any hrp5
      have h05 : Below w.heap.size w w5 := H4.out.1.trans (hb5.mono H4.out.2.1)
      have hbb5 := H4.out.2.2.1.below hb5 (by have := H0.out.2.2.2.2; omega)
      have hbr5 := H4.out.2.2.2.1.below hb5 (by have := H0.out.2.2.2.2; omega)
      have z3 := (hR5 : RgIn _ _ _ _ _ _ _ _ _ _ _ _ _ _ _ _ _).box.cell 3
      simp only [List.getElem?_toArray, List.getElem?_cons_succ, List.getElem?_cons_zero] at z3
      have H5 := Lib.hid (And.intro h05 (And.intro hbb5 (And.intro hbr5 (And.intro hR5 (Nat.le_trans H4.out.2.2.2.2 hb5.size)))))
      unfold maxLen at hcp
      rw [hn] at hEN hLl
      have HEN := Lib.hid hEN
      clear hb5 hL0 hLl hLp hLs hEN hxz hyz hLz hLr hLe hLTI hRTI hrp5 h05 hbb5 hbr5 hR5 HFI x0 x1 hn
      go_wp2_with fail
      go_loopw [57] (fun iv wr => ∃ (i : Nat) (gv : Value), i ≤ n ∧ iv = .int .i64 i ∧ RgAt B0 wr (gc + 1) bt bt2 (gc + 1 + 1) (gc + 1 + 1 + 1) gc (12000 + i * 1001) policy (.slice Ap n cp) gv (Sw.runN policy xs ys L0 i).1 (Sw.runN policy xs ys L0 i).2 ∧ Below B0 w5 wr) (fun iv _ => n - (intOf iv).toNat)
      case atStart => exact ⟨0, _, Nat.zero_le _, rfl, H5.out.2.2.2.1, Below.refl _ _⟩
      case round =>
        obtain ⟨i, gv, hi, rfl, hR, hb⟩ := hrel
        have hi300 : i ≤ 300 := by omega
        obtain ⟨S, hS⟩ : ∃ S, Sw.runN policy xs ys L0 i = S := ⟨_, rfl⟩
        have hSp : S.1.map NP.path = L0.map NP.path := by rw [← hS]; exact run_path i
        have hSl : S.1.length = n := by rw [← hS, run_len]; exact HL0.out.2.2.2.1
        have hSg : S.2.length ≤ i := by rw [← hS]; exact run_graft i
        rw [hS] at hR
        by_cases hlt : i < n
        · have hiL : i < L0.length := by rw [HL0.out.2.2.2.1]; exact hlt
          obtain ⟨m, hmS, hmp, hrun⟩ := run_at (policy := policy) (xs := xs) (ys := ys) HL0.out.2.2.1 hiL
          rw [hS] at hmS hrun
          have hrp := (hR : RgIn _ _ _ _ _ _ _ _ _ _ _ _ _ _ _ _ _).rp
          rw [← flat_sE] at hrp
          have hsv := SlV.of_own hrp sE_lenP (by decide)
          have hsv' := hsv
          obtain ⟨A', c', hA', _, _, hso⟩ := hsv'
          rw [List.length_map, hSl] at hA'
          obtain ⟨rfl, rfl⟩ : Ap = A' ∧ cp = c' := by injection hA' with e1 e2 e3; exact ⟨e1, e3⟩
          clear hA'
          have hiM : i < (S.1.map NP.path).length := by rw [List.length_map, hSl]; exact hlt
          obtain ⟨b, off, rfl, hbb, hcs⟩ := hso (by omega)
          have c0 := hcs i hiM 0 (by omega)
          have hpe : (S.1.map NP.path)[i] = m.path := by
            rw [hmp]
            have h2 : (S.1.map NP.path)[i]? = (L0.map NP.path)[i]? := by rw [hSp]
            rw [List.getElem?_eq_getElem hiM, List.getElem?_map, List.getElem?_eq_getElem hiL] at h2
            exact Option.some.inj h2
          rw [hpe] at c0
          simp only [sE, List.getElem?_cons_zero, Nat.add_zero, Nat.mul_one] at c0
          clear hcs hso
          have hi1 : (i : Int) < n := by omega
          have hSr : Rise (S.1.map NP.path) := by rw [hSp]; exact HL0.out.2.2.1
          have hSz : ∀ q ∈ S.1.map NP.path, q.size ≤ 90000 := by rw [hSp]; exact HL0.out.2.1
          have hpm : m.path ∈ S.1.map NP.path := List.mem_map.2 ⟨m, hmS, rfl⟩
          have hbad := bad_holds hSr hmS
          have hBD := regBad_any wr (gc + 1) bt bt2 (gc + 1 + 1) (gc + 1 + 1 + 1) gc (12000 + i * 1001) policy _ gv S.1 m.path (hR : RgIn _ _ _ _ _ _ _ _ _ _ _ _ _ _ _ _ _).box hsv (by omega) hSz (hSz _ hpm) (hR : RgIn _ _ _ _ _ _ _ _ _ _ _ _ _ _ _ _ _).mA (hR : RgIn _ _ _ _ _ _ _ _ _ _ _ _ _ _ _ _ _).mB
          rw [hbad] at hBD
          have HBD := Lib.hid hBD
          have h0r : Below w.heap.size w wr := H5.out.1.trans (hb.mono H4.out.2.1)
          have HRR := Lib.hid (fun V (hV : Below wr.heap.size wr V) => regRegion_any B0 V (gc + 1) bt bm bt2 bm2 (gc + 1 + 1) (gc + 1 + 1 + 1) gc (12000 + i * 1001) policy _ gv xs ys S.1 S.2 m.path (RgIn.below hR hV) ((HIN.out.1 V (h0r.trans (hV.mono h0r.size))).2.2.1) ((HIN.out.1 V (h0r.trans (hV.mono h0r.size))).2.2.2) (by have := HL.out.2.1; omega) (by have := HL.out.2.2; omega) (by omega) (by omega) hSz hpm (by omega) (Nat.le_trans H5.out.2.2.2.2 (Nat.le_trans hb.size hV.size)))
          have hgo : goN policy xs ys S m = if badN S.1 m = true then (turnN policy xs ys S.1 m.path, if sideR policy xs ys m.path = 2 then S.2 ++ [m.path] else S.2) else S := rfl
          obtain ⟨p, hp⟩ : ∃ p, m.path = p := ⟨_, rfl⟩
          rw [hp] at c0 HBD HRR hgo
          obtain ⟨BD, hBD2⟩ : ∃ b, badN S.1 m = b := ⟨_, rfl⟩
          rw [hBD2] at HBD hgo
          have HS := Lib.hid (And.intro hR (And.intro hb (And.intro hrun hgo)))
          clear hR hb hrun hgo hrp hsv hmS hmp hpe hSr hSz hpm hbad hBD h0r hp hBD2 hSp hSl hSg hS hiM
          go_wp2_with fail
          refine HBD.out.mono ?_
          rintro e w6 ⟨rfl, hb6⟩
          have H6 := Lib.hid hb6
          clear hb6 HBD c0
          cases BD with
          | false =>
            go_wp2_with fail
            go_roundw
            case rel =>
              refine ⟨i + 1, gv, by omega, by go_num, ?_, HS.out.2.1.trans (H6.out.mono (Nat.le_trans H5.out.2.2.2.2 HS.out.2.1.size))⟩
              rw [HS.out.2.2.1, HS.out.2.2.2, if_neg (by decide)]
              exact (RgIn.below HS.out.1 H6.out).more (by omega)
            case measure => simp [intOf]; omega
          | true =>
            go_wp2_with fail
            refine (HRR.out w6 H6.out).mono ?_
            rintro e w7 ⟨rfl, gv7, hR7, hb7⟩
            have H7 := Lib.hid (And.intro hR7 hb7)
            clear hR7 hb7 HRR
            go_wp2_with fail
            go_roundw
            case rel =>
              refine ⟨i + 1, gv7, by omega, by go_num, ?_, (HS.out.2.1.trans (H6.out.mono (Nat.le_trans H5.out.2.2.2.2 HS.out.2.1.size))).trans H7.out.2⟩
              rw [HS.out.2.2.1, HS.out.2.2.2]
              simp only [if_true]
              exact RgIn.more H7.out.1 (by omega)
            case measure => simp [intOf]; omega
        · obtain rfl : i = n := by omega
          have hE : endN policy (l1 ++ l2) xs ys = S := HEN.out.trans hS
          have hSh : ∀ n ∈ S.1, ShN policy xs ys n := by rw [← hS]; exact run_sh HL0.out.1 i
          have hTl : TI (leftN S.1) := by have := HL0.out.2.2.2.2.1; rw [HL0.out.2.2.2.1, hS] at this; exact this
          have hTr : TI (rightN S.1) := by have := HL0.out.2.2.2.2.2; rw [HL0.out.2.2.2.1, hS] at this; exact this
          have hSr : Rise (S.1.map NP.path) := by rw [hSp]; exact HL0.out.2.2.1
          have hSz : ∀ q ∈ S.1.map NP.path, q.size ≤ 90000 := by rw [hSp]; exact HL0.out.2.1
          have hxu := (HIN.out.1 w (Below.refl _ _)).2.2.1.map.up
          have hyu := (HIN.out.1 w (Below.refl _ _)).2.2.2.map.up
          have hgx : ∀ p, NdIn (getT xs p) := fun p => getT_nd hxu HTI.out.2.1.1
          have hgy : ∀ p, NdIn (getT ys p) := fun p => getT_nd hyu HTI.out.2.1.2
          have hnl : ∀ n ∈ S.1, NdIn n.left := fun n hn => (hSh n hn).1.1.elim (fun e => by rw [e]; exact hgx _) (fun e => by rw [e]; exact hgy _)
          have hnr : ∀ n ∈ S.1, NdIn n.right := fun n hn => (hSh n hn).1.2.elim (fun e => by rw [e]; exact hgx _) (fun e => by rw [e]; exact hgy _)
          have hlL : (leftN S.1).length ≤ 300 := Nat.le_trans (flat_one_len NP.left S.1) (by omega)
          have hlR : (rightN S.1).length ≤ 300 := Nat.le_trans (flat_one_len NP.right S.1) (by omega)
          have hdL : ∀ e ∈ leftN S.1, e.2.data.size ≤ maxLen := fun e he => by
            obtain ⟨n, hn, rfl⟩ := one_mem (f := NP.left) he
            exact (hnl n hn).size
          have hdR : ∀ e ∈ rightN S.1, e.2.data.size ≤ maxLen := fun e he => by
            obtain ⟨n, hn, rfl⟩ := one_mem (f := NP.right) he
            exact (hnr n hn).size
          have hhp : (S.1.map NP.path).filterMap (heldP (l1 ++ l2) (leftN S.1) (rightN S.1)) = heldN (l1 ++ l2) S.1 := held_paths HTI.out.1.1 HTI.out.1.2 (l1 ++ l2) hSh hSr
          have h0r : Below w.heap.size w wr := H5.out.1.trans (hb.mono H4.out.2.1)
          have hB0r : B0 ≤ wr.heap.size := Nat.le_trans H5.out.2.2.2.2 hb.size
          have hbbr := H5.out.2.1.below hb (by have := H0.out.2.2.2.2; omega)
          have hbrr := H5.out.2.2.1.below hb (by have := H0.out.2.2.2.2; omega)
          have HT0 := Lib.hid (fun V (hV : Below wr.heap.size wr V) => regTree0_any B0 V (gc + 1) bt bt2 (gc + 1 + 1) (gc + 1 + 1 + 1) gc (12000 + i * 1001) policy _ gv S.1 S.2 (RgIn.below hR hV) (by omega) (fun n hn => ⟨hSz _ (List.mem_map.2 ⟨n, hn, rfl⟩), hnl n hn⟩) hSr hTl)
          have HT1 := Lib.hid (fun V (hV : Below wr.heap.size wr V) => regTree1_any B0 V (gc + 1) bt bt2 (gc + 1 + 1) (gc + 1 + 1 + 1) gc (12000 + i * 1001) policy _ gv S.1 S.2 (RgIn.below hR hV) (by omega) (fun n hn => ⟨hSz _ (List.mem_map.2 ⟨n, hn, rfl⟩), hnr n hn⟩) hSr hTr)
          have HBS := Lib.hid (fun V (hV : Below wr.heap.size wr V) tb tm tb2 tm2 (hX : TreeAt V tb tm (leftN S.1)) (hY : TreeAt V tb2 tm2 (rightN S.1)) => regBase_any B0 V (gc + 1) bt bt2 (gc + 1 + 1) (gc + 1 + 1 + 1) gc (12000 + i * 1001) policy _ gv (.slice A1 n1 c1) (.slice A2 n2 c2) S.1 S.2 l1 l2 tb tm tb2 tm2 (leftN S.1) (rightN S.1) (RgIn.below hR hV) (by omega) hSz ((HIN.out.1 V (h0r.trans (hV.mono h0r.size))).1) ((HIN.out.1 V (h0r.trans (hV.mono h0r.size))).2.1) (by have := HL.out.1.1; omega) (by have := HL.out.1.2; omega) hX hY (by omega) (by omega) hdL hdR)
          rw [hhp] at HBS
          have hrg := (hR : RgIn _ _ _ _ _ _ _ _ _ _ _ _ _ _ _ _ _).rg
          obtain ⟨Ag, cg, rfl, -, hcg, -⟩ := SlV_of_any hrg
          have HS := Lib.hid (And.intro hR (And.intro h0r (And.intro hB0r (And.intro hbbr (And.intro hbrr (And.intro hE (And.intro hSr (And.intro hSl (And.intro hSp hSz)))))))))
          obtain ⟨ng, hng⟩ : ∃ n, S.2.length = n := ⟨_, rfl⟩
          have hng2 : ng ≤ 300 := by omega
          have HNG := Lib.hid hng
          try rw [hng] at hcg
          rw [hng] at HS
          obtain ⟨AM, hAM⟩ : ∃ L, agreeM (marksT (leftN S.1)) (marksT (rightN S.1)) = L := ⟨_, rfl⟩
          obtain ⟨HM, hHM⟩ : ∃ L, heldN (l1 ++ l2) S.1 = L := ⟨_, rfl⟩
          obtain ⟨na, hna⟩ : ∃ n, AM.length = n := ⟨_, rfl⟩
          obtain ⟨nh, hnh⟩ : ∃ n, HM.length = n := ⟨_, rfl⟩
          unfold OwnMk at HBS
          rw [hAM, hHM, hna, hnh] at HBS
          have HMS := Lib.hid (And.intro (And.intro hAM hHM) (And.intro hna hnh))
          clear hAM hHM hna hnh
          clear hSg hng hE hSh hTl hTr hSr hSz hxu hyu hgx hgy hnl hnr hlL hlR hdL hdR hhp h0r hB0r hbbr hbrr hR hrg hS hSp hb
          go_wp2_with fail
          refine (HT0.out wr (Below.refl _ _)).mono ?_
          rintro e w7 ⟨tl, ml, rfl, hTL, hb7⟩
          have H7 := Lib.hid (And.intro hTL hb7)
          clear hTL hb7 HT0
          go_wp2_with fail
          refine (HT1.out w7 H7.out.2).mono ?_
          rintro e w8 ⟨tr, mr, rfl, hTR, hb8⟩
          have h8 : Below wr.heap.size wr w8 := H7.out.2.trans (hb8.mono H7.out.2.size)
          have hTL8 := H7.out.1.below hb8
          have H8 := Lib.hid (And.intro hTL8 (And.intro hTR h8))
          have hbb8 := HS.out.2.2.2.1.below h8 HS.out.2.2.2.1.lt
          have hst8 := (RgIn.below HS.out.1 h8).box
          have x0 := hbb8.cell 0
          have x1 := hbb8.cell 1
          have x7 := hst8.cell 7
          simp only [List.getElem?_toArray, List.getElem?_cons_succ, List.getElem?_cons_zero] at x0 x1 x7
          clear hb8 h8 hTL8 hTR HT1 z3
          have HBL := Lib.hid (And.intro hbb8.lt hst8.lt)
          clear hbb8 hst8
          go_upto_region 20 with fail
          go_cut [18] from 88 to 99 (fun s18 wx => ∃ (g bs : Nat) (ua uh : Value), s18 = .pointer (some ⟨g, 0, none⟩) ∧ w8.heap.size ≤ g ∧ Blk wx g 36 #[.pointer (some ⟨tl, 0, none⟩), .pointer (some ⟨tr, 0, none⟩), ua, uh, .slice none 0 0, .slice Ag ng cg] ∧ wx.ownsRow bs 63 6 ua na (AM.flatMap eCM) ∧ wx.ownsRow bs 63 6 uh nh (HM.flatMap eCM) ∧ Below w8.heap.size w8 wx)
          case first =>
            have HC0 := Lib.hid (Aft.start w8)
            have k0 : ∀ m : Held (Aft w8), (HeldW m).cell? ⟨w.heap.size, 0, none⟩ = some (.slice A1 n1 c1) := fun m => (Aft.cell m HBL.out.1).trans x0
            have k1 : ∀ m : Held (Aft w8), (HeldW m).cell? ⟨w.heap.size, 1, none⟩ = some (.slice A2 n2 c2) := fun m => (Aft.cell m HBL.out.1).trans x1
            have k7 : ∀ m : Held (Aft w8), (HeldW m).cell? ⟨gc + 1, 7, none⟩ = some (.slice Ag ng cg) := fun m => (Aft.cell m HBL.out.2).trans x7
            clear x0 x1 x7
            refine wp_region_mixT (Aft w8) (.first 0 (.first 1 (.first 2 (.first 3 (.first 4 (.first 5 (.first 7 (.first 8 (.first 9 (.first 10 (.two 6 (.first 11 (.forced 12 (.forced 13 .nil))) 12 (.forced 6 (.first 11 (.forced 13 .nil)))))))))))))) (by kernel_rfl) (by kernel_rfl) ?_
            simp only [pickT, List.getElem?_toArray, List.getElem?_cons_succ, List.getElem?_cons_zero]
            repeat (apply mixT_first; apply Exists.intro; refine ⟨fun m => ?_, HC0.out, ?_⟩; · (go_big_quiet_step (fail); exact wpQuiet_nil rfl))
            refine mixT_two HC0.out ?_ ?_
            · go_wp2_with fail
              refine (HBS.out _ (H8.out.2.2.trans (HC0.out.mono H8.out.2.2.size)) tl ml tr mr (H8.out.1.below HC0.out) (H8.out.2.1.below HC0.out)).mono ?_
              rintro e w9 ⟨ua, uh, rfl, ho1, ho2, hb9⟩
              obtain ⟨Aa, ca, rfl, -, -, -⟩ := SlV_of_any ho1
              obtain ⟨Ah, ch, rfl, -, -, -⟩ := SlV_of_any ho2
              have H9 := Lib.hid (And.intro (show Aft w8 w9 from Aft.keep _ _ HC0.out hb9) (And.intro ho1 ho2))
              clear hb9 ho1 ho2
              go_wp2_with fail
              show mixT _ _ _ _ _ _ _
              apply mixT_first; apply Exists.intro; refine ⟨fun m => ?_, H9.out.1, ?_⟩; · (go_big_quiet_step (fail); exact wpQuiet_nil rfl)
              refine mixT_forced H9.out.1 ?_
              go_wp2_with fail
              show mixT _ _ _ _ _ _ _
              refine mixT_forced (H9.out.1.alloc H9.out.1.size _) ?_
              go_wp2_with fail
              show mixT _ _ _ _ _ _ _
              refine mixT_nil (H9.out.1.alloc H9.out.1.size _) ?_
              go_wp2_with fail
              go_meet
              exact ⟨w9.heap.size, _, _, _, rfl, H9.out.1.size, Blk.new _ _ _, own_kept H9.out.2.1 ((Below.refl _ w9).alloc (Nat.le_refl _) _), own_kept H9.out.2.2 ((Below.refl _ w9).alloc (Nat.le_refl _) _), H9.out.1.alloc H9.out.1.size _⟩
            · go_wp2_with fail
              show mixT _ _ _ _ _ _ _
              obtain ⟨V0, hV0⟩ : ∃ V0, (w8.alloc (.cells #[.pointer none, .pointer none, .slice none 0 0, .slice none 0 0, .slice none 0 0, .slice none 0 0] 36)).drew = V0 := ⟨_, rfl⟩
              obtain ⟨g, hg⟩ : ∃ g, w8.heap.size = g := ⟨_, rfl⟩
              have hBg : Blk V0 g 36 #[.pointer none, .pointer none, .slice none 0 0, .slice none 0 0, .slice none 0 0, .slice none 0 0] := by rw [← hV0, ← hg]; exact (Blk.new w8 _ _)
              have hbV0 : Aft w8 V0 := by rw [← hV0]; exact ((Below.refl _ w8).alloc (Nat.le_refl _) _).drew
              have hgw : w8.heap.size ≤ g := by omega
              try rw [hV0]
              try rw [hg]
              clear hV0 hg
              refine mixT_forced hbV0 ?_
              go_wp2_with fail
              refine (HBS.out _ (H8.out.2.2.trans (hbV0.mono H8.out.2.2.size)) tl ml tr mr (H8.out.1.below hbV0) (H8.out.2.1.below hbV0)).mono ?_
              rintro e V ⟨ua, uh, rfl, ho1, ho2, hb9⟩
              obtain ⟨Aa, ca, rfl, -, -, -⟩ := SlV_of_any ho1
              obtain ⟨Ah, ch, rfl, -, -, -⟩ := SlV_of_any ho2
              have HV := Lib.hid (And.intro (hBg.below hb9 hBg.lt) (And.intro (show Aft w8 V from Aft.keep _ _ hbV0 hb9) (And.intro hgw (And.intro ho1 ho2))))
              clear hb9 ho1 ho2 hBg hbV0 hgw
              go_wp2_with fail
              show mixT _ _ _ _ _ _ _
              apply mixT_first; apply Exists.intro; refine ⟨fun m => ?_, HV.out.2.1, ?_⟩; · (go_big_quiet_step (fail); exact wpQuiet_nil rfl)
              have z0 := HV.out.1.cell 0
              have fz0 := HV.out.1.frozen 0
              have z1 := HV.out.1.cell 1
              have fz1 := HV.out.1.frozen 1
              have z2 := HV.out.1.cell 2
              have fz2 := HV.out.1.frozen 2
              have z3 := HV.out.1.cell 3
              have fz3 := HV.out.1.frozen 3
              have z4 := HV.out.1.cell 4
              have fz4 := HV.out.1.frozen 4
              have z5 := HV.out.1.cell 5
              have fz5 := HV.out.1.frozen 5
              simp only [List.getElem?_toArray, List.getElem?_cons_succ, List.getElem?_cons_zero] at z0 z1 z2 z3 z4 z5
              refine mixT_forced HV.out.2.1 ?_
              go_wp2_with fail
              show mixT _ _ _ _ _ _ _
              obtain ⟨VF, hVF⟩ : ∃ VF, ((((((V.setCell ⟨g, 0, none⟩ (.pointer (some ⟨tl, 0, none⟩))).setCell ⟨g, 1, none⟩ (.pointer (some ⟨tr, 0, none⟩))).setCell ⟨g, 2, none⟩ (.slice Aa na ca)).setCell ⟨g, 3, none⟩ (.slice Ah nh ch)).setCell ⟨g, 4, none⟩ (.slice none 0 0)).setCell ⟨g, 5, none⟩ (.slice Ag ng cg)) = VF := ⟨_, rfl⟩
              rw [hVF]
              have p0 : Blk (V.setCell ⟨g, 0, none⟩ (.pointer (some ⟨tl, 0, none⟩))) g 36 #[.pointer (some ⟨tl, 0, none⟩), .pointer none, .slice none 0 0, .slice none 0 0, .slice none 0 0, .slice none 0 0] := HV.out.1.put 0 (.pointer (some ⟨tl, 0, none⟩))
              have p1 : Blk ((V.setCell ⟨g, 0, none⟩ (.pointer (some ⟨tl, 0, none⟩))).setCell ⟨g, 1, none⟩ (.pointer (some ⟨tr, 0, none⟩))) g 36 #[.pointer (some ⟨tl, 0, none⟩), .pointer (some ⟨tr, 0, none⟩), .slice none 0 0, .slice none 0 0, .slice none 0 0, .slice none 0 0] := p0.put 1 (.pointer (some ⟨tr, 0, none⟩))
              have p2 : Blk (((V.setCell ⟨g, 0, none⟩ (.pointer (some ⟨tl, 0, none⟩))).setCell ⟨g, 1, none⟩ (.pointer (some ⟨tr, 0, none⟩))).setCell ⟨g, 2, none⟩ (.slice Aa na ca)) g 36 #[.pointer (some ⟨tl, 0, none⟩), .pointer (some ⟨tr, 0, none⟩), .slice Aa na ca, .slice none 0 0, .slice none 0 0, .slice none 0 0] := p1.put 2 (.slice Aa na ca)
              have p3 : Blk ((((V.setCell ⟨g, 0, none⟩ (.pointer (some ⟨tl, 0, none⟩))).setCell ⟨g, 1, none⟩ (.pointer (some ⟨tr, 0, none⟩))).setCell ⟨g, 2, none⟩ (.slice Aa na ca)).setCell ⟨g, 3, none⟩ (.slice Ah nh ch)) g 36 #[.pointer (some ⟨tl, 0, none⟩), .pointer (some ⟨tr, 0, none⟩), .slice Aa na ca, .slice Ah nh ch, .slice none 0 0, .slice none 0 0] := p2.put 3 (.slice Ah nh ch)
              have p4 : Blk (((((V.setCell ⟨g, 0, none⟩ (.pointer (some ⟨tl, 0, none⟩))).setCell ⟨g, 1, none⟩ (.pointer (some ⟨tr, 0, none⟩))).setCell ⟨g, 2, none⟩ (.slice Aa na ca)).setCell ⟨g, 3, none⟩ (.slice Ah nh ch)).setCell ⟨g, 4, none⟩ (.slice none 0 0)) g 36 #[.pointer (some ⟨tl, 0, none⟩), .pointer (some ⟨tr, 0, none⟩), .slice Aa na ca, .slice Ah nh ch, .slice none 0 0, .slice none 0 0] := p3.put 4 (.slice none 0 0)
              have p5 : Blk ((((((V.setCell ⟨g, 0, none⟩ (.pointer (some ⟨tl, 0, none⟩))).setCell ⟨g, 1, none⟩ (.pointer (some ⟨tr, 0, none⟩))).setCell ⟨g, 2, none⟩ (.slice Aa na ca)).setCell ⟨g, 3, none⟩ (.slice Ah nh ch)).setCell ⟨g, 4, none⟩ (.slice none 0 0)).setCell ⟨g, 5, none⟩ (.slice Ag ng cg)) g 36 #[.pointer (some ⟨tl, 0, none⟩), .pointer (some ⟨tr, 0, none⟩), .slice Aa na ca, .slice Ah nh ch, .slice none 0 0, .slice Ag ng cg] := p4.put 5 (.slice Ag ng cg)
              have hBF : Blk VF g 36 #[.pointer (some ⟨tl, 0, none⟩), .pointer (some ⟨tr, 0, none⟩), .slice Aa na ca, .slice Ah nh ch, .slice none 0 0, .slice Ag ng cg] := by rw [← hVF]; exact p5
              clear p0 p1 p2 p3 p4 p5
              have hbV : Aft w8 VF := by rw [← hVF]; exact ((((((HV.out.2.1.setCell (p := ⟨g, 0, none⟩) HV.out.2.2.1 (.pointer (some ⟨tl, 0, none⟩))).setCell (p := ⟨g, 1, none⟩) HV.out.2.2.1 (.pointer (some ⟨tr, 0, none⟩))).setCell (p := ⟨g, 2, none⟩) HV.out.2.2.1 (.slice Aa na ca)).setCell (p := ⟨g, 3, none⟩) HV.out.2.2.1 (.slice Ah nh ch)).setCell (p := ⟨g, 4, none⟩) HV.out.2.2.1 (.slice none 0 0)).setCell (p := ⟨g, 5, none⟩) HV.out.2.2.1 (.slice Ag ng cg))
              have hown : ∀ (bs n : Nat) (u : Value) (L : List Value), V.ownsRow bs 63 6 u n L → VF.ownsRow bs 63 6 u n L := fun bs n u L ho => own_sameB ho (fun g' hg' => by
                have hne : g' ≠ g := fun e => by
                  obtain ⟨cur, hc⟩ := own_blkB ho hg'
                  exact Blk.other hc HV.out.1 (by decide) (by rw [e])
                rw [← hVF]
                exact ((Below.heap_setCell _ ⟨g, 5, none⟩ _ g' hne).trans ((Below.heap_setCell _ ⟨g, 4, none⟩ _ g' hne).trans ((Below.heap_setCell _ ⟨g, 3, none⟩ _ g' hne).trans ((Below.heap_setCell _ ⟨g, 2, none⟩ _ g' hne).trans ((Below.heap_setCell _ ⟨g, 1, none⟩ _ g' hne).trans (Below.heap_setCell _ ⟨g, 0, none⟩ _ g' hne)))))))
              clear hVF z0 fz0 z1 fz1 z2 fz2 z3 fz3 z4 fz4 z5 fz5
              refine mixT_nil hbV ?_
              go_wp2_with fail
              go_meet
              exact ⟨g, _, _, _, rfl, HV.out.2.2.1, hBF, hown _ _ _ _ HV.out.2.2.2.1, hown _ _ _ _ HV.out.2.2.2.2, hbV⟩
          case rest =>
            obtain ⟨g, bs, ua, uh, rfl, hgw, hBg, hoa, hoh, hbx⟩ := hcut
            generalize wc = w9 at *
            obtain ⟨Aa, ca, rfl, -, -, -⟩ := SlV_of_any hoa
            obtain ⟨Ah, ch, rfl, -, -, -⟩ := SlV_of_any hoh
            have x3 := (RgIn.below HS.out.1 (H8.out.2.2.trans (hbx.mono H8.out.2.2.size))).box.cell 3
            simp only [List.getElem?_toArray, List.getElem?_cons_succ, List.getElem?_cons_zero] at x3
            have H9 := Lib.hid (And.intro hgw (And.intro hBg (And.intro hoa (And.intro hoh hbx))))
            clear hgw hBg hoa hoh hbx x0 x1 x7
            go_wp2_with fail
            go_loopw [105] (fun iv wx => ∃ (k : Nat) (uc : Value), k ≤ i ∧ iv = .int .i64 k ∧ Below w8.heap.size w8 wx ∧ Blk wx g 36 #[.pointer (some ⟨tl, 0, none⟩), .pointer (some ⟨tr, 0, none⟩), .slice Aa na ca, .slice Ah nh ch, uc, .slice Ag ng cg] ∧ wx.ownsRow bs 63 6 (.slice Aa na ca) na (AM.flatMap eCM) ∧ wx.ownsRow bs 63 6 (.slice Ah nh ch) nh (HM.flatMap eCM) ∧ wx.ownsRow w8.heap.size 66 2 uc (clashN (S.1.take k)).length ((clashN (S.1.take k)).flatMap eCl)) (fun iv _ => i - (intOf iv).toNat)
            case atStart => exact ⟨0, _, Nat.zero_le _, rfl, H9.out.2.2.2.2, H9.out.2.1, H9.out.2.2.1, H9.out.2.2.2.1, World.ownsRow_nil _ _ _ _⟩
            case round =>
              obtain ⟨k, uc, hk, rfl, hb, hBg, hoa, hoh, hoc⟩ := hrel
              have hk300 : k ≤ 300 := by omega
              obtain ⟨K, hK⟩ : ∃ K, clashN (S.1.take k) = K := ⟨_, rfl⟩
              rw [hK] at hoc
              obtain ⟨kc, hkc⟩ : ∃ n, K.length = n := ⟨_, rfl⟩
              rw [hkc] at hoc
              have hkl : kc ≤ 300 := by rw [← hkc, ← hK]; exact Nat.le_trans (List.length_filterMap_le _ _) (by rw [List.length_take]; omega)
              obtain ⟨Ac, cc, rfl, -, -, -⟩ := SlV_of_any hoc
              by_cases hlt2 : k < i
              · have hkS : k < S.1.length := by rw [hSl]; exact hlt2
                have hR := RgIn.below HS.out.1 (H8.out.2.2.trans (hb.mono H8.out.2.2.size))
                have hrp := (hR : RgIn _ _ _ _ _ _ _ _ _ _ _ _ _ _ _ _ _).rp
                rw [← flat_sE] at hrp
                have hsv := SlV.of_own hrp sE_lenP (by decide)
                obtain ⟨A', c', hA', _, _, hso⟩ := hsv
                rw [List.length_map, hSl] at hA'
                obtain ⟨rfl, rfl⟩ : Ap = A' ∧ cp = c' := by injection hA' with e1 e2 e3; exact ⟨e1, e3⟩
                clear hA'
                have hkM : k < (S.1.map NP.path).length := by rw [List.length_map, hSl]; exact hlt2
                obtain ⟨b, off, rfl, hbb, hcs⟩ := hso (by omega)
                have c0 := hcs k hkM 0 (by omega)
                have hpe : (S.1.map NP.path)[k] = S.1[k].path := by simp
                rw [hpe] at c0
                simp only [sE, List.getElem?_cons_zero, Nat.add_zero, Nat.mul_one] at c0
                clear hcs hso
                have hct := clash_take S.1 k hkS
                have hlk := lkC_mem HS.out.2.2.2.2.2.2.1 (List.getElem_mem hkS)
                have hqz := HS.out.2.2.2.2.2.2.2.2.2 _ (List.mem_map.2 ⟨_, List.getElem_mem hkS, rfl⟩)
                obtain ⟨nd, hnd⟩ : ∃ n, S.1[k] = n := ⟨_, rfl⟩
                simp only [hnd] at c0 hct hlk hqz
                rw [hK] at hct
                obtain ⟨q, hq⟩ : ∃ q, nd.path = q := ⟨_, rfl⟩
                obtain ⟨cl, hcl⟩ : ∃ c, nd.cls = c := ⟨_, rfl⟩
                have hcp : clsP nd = if cl = 0 then none else some (q, cl) := by unfold clsP; rw [hq, hcl]
                rw [hcp] at hct
                rw [hq] at c0 hlk hqz
                rw [hcl] at hlk
                have hk1 : (k : Int) < i := by omega
                have hMC := (hR : RgIn _ _ _ _ _ _ _ _ _ _ _ _ _ _ _ _ _).mC
                have x6 := (hR : RgIn _ _ _ _ _ _ _ _ _ _ _ _ _ _ _ _ _).box.cell 6
                simp only [List.getElem?_toArray, List.getElem?_cons_succ, List.getElem?_cons_zero] at x6
                have HMC := Lib.hid (And.intro hMC (show okT q from by unfold okT maxLen; omega))
                have HH := Lib.hid (And.intro hb (And.intro hBg (And.intro hoa (And.intro hoh hoc))))
                clear hR hrp hb hBg hoa hoh hoc hMC hcp hq hcl hnd hpe hkM hkS hqz
                by_cases h0 : cl = 0
                · subst h0
                  rw [if_pos rfl] at hlk hct
                  have HQ := Lib.hid hlk
                  have HC := Lib.hid (And.intro hct (And.intro hK hkc))
                  clear hlk hct hK hkc
                  go_wp2_with (at_lookup; refine wpList_lookV_ok rfl _ _ 72 rfl 3 (keyStr Tryz.underlying9) Tryz.underlying72 (mapI0 _) gc _ _ rfl HMC.out.1 q rfl HMC.out.2 ?_; rw [HQ.out])
                  go_roundw
                  case rel =>
                    refine ⟨k + 1, _, by omega, by go_num, HH.out.1, HH.out.2.1, HH.out.2.2.1, HH.out.2.2.2.1, ?_⟩
                    rw [HC.out.1]
                    simp only [Option.toList, List.append_nil, HC.out.2.2]
                    exact HH.out.2.2.2.2
                  case measure => simp [intOf]; omega
                · rw [if_neg h0] at hlk hct
                  have HQ := Lib.hid hlk
                  have HC := Lib.hid (And.intro hct (And.intro hK hkc))
                  have HZ := Lib.hid h0
                  clear hlk hct hK hkc h0
                  go_wp2_with (first | (at_lookup; refine wpList_lookV_ok rfl _ _ 72 rfl 3 (keyStr Tryz.underlying9) Tryz.underlying72 (mapI0 _) gc _ _ rfl HMC.out.1 q rfl HMC.out.2 ?_; rw [HQ.out]; have z4 := HH.out.2.1.cell 4; simp only [List.getElem?_toArray, List.getElem?_cons_succ, List.getElem?_cons_zero] at z4) | (at_builtin; go_loud (refine wpList_app rfl _ _ 33 rfl w8.heap.size 66 (.agg #[.string ⟨#[]⟩, .int .i64 0]) 2 24 Tryz.underlying33 infoCl rfl (by decide) _ kc (K.flatMap eCl) rfl (own_kept HH.out.2.2.2.2 ((Below.refl _ _).alloc (Nat.le_refl _) _)) wr.heap.size 1 #[.string q, .int .i64 cl] 66 rfl (Blk.new wr _ _) rfl (by simp [Value.oneCell']) (by omega) (by decide) (Nat.le_trans HH.out.1.size (by simp)) _ rfl ?_; intro g2 cap w7 ho7 hg7 hat7 hlt7; have hnb : ∀ g' cs, Blk wr g' 36 cs → Blk w7 g' 36 cs := (fun g' cs hB => (hB.alloc _).grown hg7 (fun e => by obtain ⟨cur, hc⟩ := own_blkB HH.out.2.2.2.2 e.symm; exact Blk.other hc hB (by decide) rfl)); have HO7 := Lib.hid (And.intro ho7 (And.intro hg7 hat7)); have hb7 := hnb _ _ HH.out.2.1; have HB7 := Lib.hid hb7; have c7 := hb7.cell 4; have f7 := hb7.frozen 4; simp only [List.getElem?_toArray, List.getElem?_cons_succ, List.getElem?_cons_zero] at c7; clear hnb hb7 ho7 hg7 hat7 z4)))
                  go_roundw
                  case rel =>
                    have hal : Below wr.heap.size wr (wr.alloc (.cells #[.string q, .int .i64 cl] 66)) := (Below.refl _ _).alloc (Nat.le_refl _) _
                    have hbw7 : Below w8.heap.size w8 w7 := (HH.out.1.trans (hal.mono HH.out.1.size)).grown HO7.out.2.1 (Nat.le_trans HH.out.1.size hal.size) (fun k hk => (HH.out.2.2.2.2.lt k hk).1)
                    have hmk : ∀ (v : Value) (n : Nat) (L : List Value), wr.ownsRow bs 63 6 v n L → (w7.setCell ⟨g, 4, none⟩ (.slice (some ⟨g2, 0, none⟩) (kc + 1) cap)).ownsRow bs 63 6 v n L := fun v n L ho => own_sameB ho (fun g' hg' => by
                      obtain ⟨cur, hc⟩ := own_blkB ho hg'
                      have hne : g' ≠ g := fun e => Blk.other hc HH.out.2.1 (by decide) (by rw [e])
                      have hlt := (ho.lt g' hg').2
                      exact ((Below.heap_setCell w7 ⟨g, 4, none⟩ _ g' hne).trans (HO7.out.2.1.block g' (Nat.lt_of_lt_of_le hlt hal.size) (fun e => by obtain ⟨cur2, hc2⟩ := own_blkB HH.out.2.2.2.2 e.symm; exact Blk.other hc2 hc (by decide) rfl))).trans (hal.block g' hlt))
                    refine ⟨k + 1, .slice (some ⟨g2, 0, none⟩) (kc + 1) cap, by omega, by go_num, hbw7.setCell (p := ⟨g, 4, none⟩) H9.out.1 _, ?_, hmk _ _ _ HH.out.2.2.1, hmk _ _ _ HH.out.2.2.2.1, ?_⟩
                    · have := HB7.out.put 4 (.slice (some ⟨g2, 0, none⟩) (kc + 1) cap)
                      simpa using this
                    · rw [HC.out.1]
                      simp only [Option.toList, List.length_append, List.length_singleton, HC.out.2.2, List.flatMap_append]
                      exact own_sameB HO7.out.1 (fun g' hg' => Below.heap_setCell w7 ⟨g, 4, none⟩ _ g' (fun e => by
                        obtain ⟨cur, hc⟩ := own_blkB HO7.out.1 hg'
                        exact Blk.other hc HB7.out (by decide) (by rw [e])))
                  case measure => simp [intOf]; omega
              · obtain rfl : i = k := by omega
                rw [List.take_of_length_le (by omega)] at hK
                have hr0 := H8.out.2.2.trans (hb.mono H8.out.2.2.size)
                have hbr := HS.out.2.2.2.2.1.below hr0 HS.out.2.2.2.2.1.lt
                have hrg := (RgIn.below HS.out.1 hr0).rg
                have hw0 : Below w.heap.size w wr := HS.out.2.1.trans (hr0.mono HS.out.2.1.size)
                have x0 := hBg.cell 0
                have z0 := hbr.cell 0
                have fz0 := hbr.frozen 0
                have x1 := hBg.cell 1
                have z1 := hbr.cell 1
                have fz1 := hbr.frozen 1
                have x2 := hBg.cell 2
                have z2 := hbr.cell 2
                have fz2 := hbr.frozen 2
                have x3 := hBg.cell 3
                have z3 := hbr.cell 3
                have fz3 := hbr.frozen 3
                have x4 := hBg.cell 4
                have z4 := hbr.cell 4
                have fz4 := hbr.frozen 4
                have x5 := hBg.cell 5
                have z5 := hbr.cell 5
                have fz5 := hbr.frozen 5
                simp only [List.getElem?_toArray, List.getElem?_cons_succ, List.getElem?_cons_zero] at x0 x1 x2 x3 x4 x5 z0 z1 z2 z3 z4 z5
                have HE := Lib.hid (And.intro hw0 (And.intro hb (And.intro hBg (And.intro hoa (And.intro hoh (And.intro hoc (And.intro hK (And.intro hkc (And.intro hbr hrg)))))))))
                clear hw0 hb hBg hoa hoh hoc hK hkc hbr hrg hr0
                go_wp2_with fail
                obtain ⟨VF, hVF⟩ : ∃ VF, ((((((wr.setCell ⟨w.heap.size + 1, 0, none⟩ (.pointer (some ⟨tl, 0, none⟩))).setCell ⟨w.heap.size + 1, 1, none⟩ (.pointer (some ⟨tr, 0, none⟩))).setCell ⟨w.heap.size + 1, 2, none⟩ (.slice Aa na ca)).setCell ⟨w.heap.size + 1, 3, none⟩ (.slice Ah nh ch)).setCell ⟨w.heap.size + 1, 4, none⟩ (.slice Ac kc cc)).setCell ⟨w.heap.size + 1, 5, none⟩ (.slice Ag ng cg)) = VF := ⟨_, rfl⟩
                have hbr := HE.out.2.2.2.2.2.2.2.2.1
                have p0 : Blk (wr.setCell ⟨w.heap.size + 1, 0, none⟩ (.pointer (some ⟨tl, 0, none⟩))) (w.heap.size + 1) 36 #[.pointer (some ⟨tl, 0, none⟩), .pointer none, .slice none 0 0, .slice none 0 0, .slice none 0 0, .slice none 0 0] := hbr.put 0 (.pointer (some ⟨tl, 0, none⟩))
                have p1 : Blk ((wr.setCell ⟨w.heap.size + 1, 0, none⟩ (.pointer (some ⟨tl, 0, none⟩))).setCell ⟨w.heap.size + 1, 1, none⟩ (.pointer (some ⟨tr, 0, none⟩))) (w.heap.size + 1) 36 #[.pointer (some ⟨tl, 0, none⟩), .pointer (some ⟨tr, 0, none⟩), .slice none 0 0, .slice none 0 0, .slice none 0 0, .slice none 0 0] := p0.put 1 (.pointer (some ⟨tr, 0, none⟩))
                have p2 : Blk (((wr.setCell ⟨w.heap.size + 1, 0, none⟩ (.pointer (some ⟨tl, 0, none⟩))).setCell ⟨w.heap.size + 1, 1, none⟩ (.pointer (some ⟨tr, 0, none⟩))).setCell ⟨w.heap.size + 1, 2, none⟩ (.slice Aa na ca)) (w.heap.size + 1) 36 #[.pointer (some ⟨tl, 0, none⟩), .pointer (some ⟨tr, 0, none⟩), .slice Aa na ca, .slice none 0 0, .slice none 0 0, .slice none 0 0] := p1.put 2 (.slice Aa na ca)
                have p3 : Blk ((((wr.setCell ⟨w.heap.size + 1, 0, none⟩ (.pointer (some ⟨tl, 0, none⟩))).setCell ⟨w.heap.size + 1, 1, none⟩ (.pointer (some ⟨tr, 0, none⟩))).setCell ⟨w.heap.size + 1, 2, none⟩ (.slice Aa na ca)).setCell ⟨w.heap.size + 1, 3, none⟩ (.slice Ah nh ch)) (w.heap.size + 1) 36 #[.pointer (some ⟨tl, 0, none⟩), .pointer (some ⟨tr, 0, none⟩), .slice Aa na ca, .slice Ah nh ch, .slice none 0 0, .slice none 0 0] := p2.put 3 (.slice Ah nh ch)
                have p4 : Blk (((((wr.setCell ⟨w.heap.size + 1, 0, none⟩ (.pointer (some ⟨tl, 0, none⟩))).setCell ⟨w.heap.size + 1, 1, none⟩ (.pointer (some ⟨tr, 0, none⟩))).setCell ⟨w.heap.size + 1, 2, none⟩ (.slice Aa na ca)).setCell ⟨w.heap.size + 1, 3, none⟩ (.slice Ah nh ch)).setCell ⟨w.heap.size + 1, 4, none⟩ (.slice Ac kc cc)) (w.heap.size + 1) 36 #[.pointer (some ⟨tl, 0, none⟩), .pointer (some ⟨tr, 0, none⟩), .slice Aa na ca, .slice Ah nh ch, .slice Ac kc cc, .slice none 0 0] := p3.put 4 (.slice Ac kc cc)
                have p5 : Blk ((((((wr.setCell ⟨w.heap.size + 1, 0, none⟩ (.pointer (some ⟨tl, 0, none⟩))).setCell ⟨w.heap.size + 1, 1, none⟩ (.pointer (some ⟨tr, 0, none⟩))).setCell ⟨w.heap.size + 1, 2, none⟩ (.slice Aa na ca)).setCell ⟨w.heap.size + 1, 3, none⟩ (.slice Ah nh ch)).setCell ⟨w.heap.size + 1, 4, none⟩ (.slice Ac kc cc)).setCell ⟨w.heap.size + 1, 5, none⟩ (.slice Ag ng cg)) (w.heap.size + 1) 36 #[.pointer (some ⟨tl, 0, none⟩), .pointer (some ⟨tr, 0, none⟩), .slice Aa na ca, .slice Ah nh ch, .slice Ac kc cc, .slice Ag ng cg] := p4.put 5 (.slice Ag ng cg)
                have hBF : Blk VF (w.heap.size + 1) 36 #[.pointer (some ⟨tl, 0, none⟩), .pointer (some ⟨tr, 0, none⟩), .slice Aa na ca, .slice Ah nh ch, .slice Ac kc cc, .slice Ag ng cg] := by rw [← hVF]; exact p5
                clear p0 p1 p2 p3 p4 p5
                have hbF : Below w.heap.size w VF := by rw [← hVF]; exact ((((((HE.out.1.setCell (p := ⟨w.heap.size + 1, 0, none⟩) (Nat.le_succ _) (.pointer (some ⟨tl, 0, none⟩))).setCell (p := ⟨w.heap.size + 1, 1, none⟩) (Nat.le_succ _) (.pointer (some ⟨tr, 0, none⟩))).setCell (p := ⟨w.heap.size + 1, 2, none⟩) (Nat.le_succ _) (.slice Aa na ca)).setCell (p := ⟨w.heap.size + 1, 3, none⟩) (Nat.le_succ _) (.slice Ah nh ch)).setCell (p := ⟨w.heap.size + 1, 4, none⟩) (Nat.le_succ _) (.slice Ac kc cc)).setCell (p := ⟨w.heap.size + 1, 5, none⟩) (Nat.le_succ _) (.slice Ag ng cg))
                have hset : ∀ g', g' ≠ w.heap.size + 1 → VF.heap[g']? = wr.heap[g']? := fun g' hne => by rw [← hVF]; exact ((Below.heap_setCell _ ⟨w.heap.size + 1, 5, none⟩ _ g' hne).trans ((Below.heap_setCell _ ⟨w.heap.size + 1, 4, none⟩ _ g' hne).trans ((Below.heap_setCell _ ⟨w.heap.size + 1, 3, none⟩ _ g' hne).trans ((Below.heap_setCell _ ⟨w.heap.size + 1, 2, none⟩ _ g' hne).trans ((Below.heap_setCell _ ⟨w.heap.size + 1, 1, none⟩ _ g' hne).trans (Below.heap_setCell _ ⟨w.heap.size + 1, 0, none⟩ _ g' hne))))))
                rw [hVF]
                clear hVF z0 fz0 z1 fz1 z2 fz2 z3 fz3 z4 fz4 z5 fz5 x0 x1 x2 x3 x4 x5
                have hown : ∀ (t : TypeId) (s bs n : Nat) (u : Value) (L : List Value), t ≠ 36 → wr.ownsRow bs t s u n L → VF.ownsRow bs t s u n L := fun t s bs n u L ht ho => own_sameB ho (fun g' hg' => hset g' (fun e => by
                  obtain ⟨cur, hc⟩ := own_blkB ho hg'
                  exact Blk.other hc hbr ht (by rw [e])))
                have hRes : ResIs VF (endN policy (l1 ++ l2) xs ys) (l1 ++ l2) (.agg #[.pointer (some ⟨tl, 0, none⟩), .pointer (some ⟨tr, 0, none⟩), .slice Aa na ca, .slice Ah nh ch, .slice Ac kc cc, .slice Ag ng cg]) := by
                  rw [HS.out.2.2.2.2.2.1]
                  refine ⟨⟨tl, ml, tr, mr, _, _, _, _, bs, w8.heap.size, B0, rfl, ?_, ?_, ?_, ?_, ?_, ?_⟩⟩
                  · exact (H8.out.1.below HE.out.2.1).sameR hbr (by decide) (by decide) (by decide) hset
                  · exact (H8.out.2.1.below HE.out.2.1).sameR hbr (by decide) (by decide) (by decide) hset
                  · rw [HMS.out.1.1]
                    unfold OwnMk; rw [HMS.out.2.1]; exact hown _ _ _ _ _ _ (by decide) HE.out.2.2.2.1
                  · rw [HMS.out.1.2]
                    unfold OwnMk; rw [HMS.out.2.2]; exact hown _ _ _ _ _ _ (by decide) HE.out.2.2.2.2.1
                  · rw [HE.out.2.2.2.2.2.2.1, HE.out.2.2.2.2.2.2.2.1]
                    exact hown _ _ _ _ _ _ (by decide) HE.out.2.2.2.2.2.1
                  · exact hown _ _ _ _ _ _ (by decide) HE.out.2.2.2.2.2.2.2.2.2
                refine bodyPost_ret (res_blk_tmp rfl _ _ (w.heap.size + 1) 36 #[.pointer (some ⟨tl, 0, none⟩), .pointer (some ⟨tr, 0, none⟩), .slice Aa na ca, .slice Ah nh ch, .slice Ac kc cc, .slice Ag ng cg] _ rfl hBF Tryz.underlying36 rfl (by kernel_rfl)) rfl ⟨⟨_, rfl, hRes⟩, hbF⟩
    · have hi1 : (i : Int) < 2 := by omega
      obtain ⟨V, hV⟩ : ∃ X, wr.alloc (.map #[] 0) = X := ⟨_, rfl⟩
      have hbV : Below wr.heap.size wr V := by rw [← hV]; exact (Below.refl _ wr).alloc (Nat.le_refl _) _
      have hmV := MapV.made (α := ByteArray) wr Tryz.prog 9 litT okT
      rw [hV, hsz] at hmV
      have hsV : V.heap.size = gc + 1 + 1 + i + 1 := by rw [← hV]; simp [hsz]
      have hBV := hBx.below hbV hBx.lt
      have hmcV := hmx.below hbV hmx.lt
      have c4 := hBV.cell (4 + i)
      have f4 := hBV.frozen (4 + i)
      have HR := Lib.hid (And.intro hbr (And.intro hbV (And.intro hmV (And.intro hsV (And.intro hBV (And.intro hmcV (And.intro hA (And.intro hB hsz))))))))
      clear hbr hbV hmV hsV hBV hmcV hA hB hBx hmx
      have hput : ∀ (k : Nat) (u : Value) (g' : Nat) (N : Nat) (f : ByteArray → Option Value), MapV V Tryz.prog 9 litT okT g' N f → MapV (V.setCell ⟨gc + 1, k, none⟩ u) Tryz.prog 9 litT okT g' N f := fun k u g' N f hm => hm.same (Below.heap_setCell V ⟨gc + 1, k, none⟩ u g' (fun e => (by have e' : g' = gc + 1 := e; subst e'; exact map_noblk hm HR.out.2.2.2.2.1)))
      have HPT := Lib.hid hput
      clear hput
      by_cases hi0 : i = 0
      · subst hi0
        simp only [List.getElem?_toArray, List.getElem?_cons_succ, List.getElem?_cons_zero, Nat.add_zero] at c4 f4
        go_wp2_with fail
        clear hV hsz
        go_roundw
        case rel =>
          refine ⟨1, .map (some (gc + 1 + 1)), v5, by omega, by go_num, (HR.out.1.trans (HR.out.2.1.mono HR.out.1.size)).setCell (p := ⟨gc + 1, 4, none⟩) (by show w2.heap.size ≤ gc + 1; have := H3.out.2.2.2.2; omega) _, by have := HR.out.2.2.2.1; simpa [World.setCell] using this, ?_, HPT.out _ _ _ _ _ HR.out.2.2.2.2.2.1, fun _ => ⟨rfl, HPT.out _ _ _ _ _ HR.out.2.2.1⟩, fun h => (by omega)⟩
          have := HR.out.2.2.2.2.1.put 4 (.map (some (gc + 1 + 1)))
          simpa using this
        case measure => simp [intOf]
      · obtain rfl : i = 1 := by omega
        simp only [List.getElem?_toArray, List.getElem?_cons_succ, List.getElem?_cons_zero, Nat.reduceAdd] at c4 f4
        go_wp2_with fail
        clear hV hsz
        go_roundw
        case rel =>
          obtain ⟨e4, hm4⟩ := HR.out.2.2.2.2.2.2.1 (by omega)
          refine ⟨2, v4, .map (some (gc + 1 + 1 + 1)), by omega, by go_num, (HR.out.1.trans (HR.out.2.1.mono HR.out.1.size)).setCell (p := ⟨gc + 1, 5, none⟩) (by show w2.heap.size ≤ gc + 1; have := H3.out.2.2.2.2; omega) _, by have := HR.out.2.2.2.1; simpa [World.setCell] using this, ?_, HPT.out _ _ _ _ _ HR.out.2.2.2.2.2.1, fun _ => ⟨e4, HPT.out _ _ _ _ _ (hm4.below HR.out.2.1 hm4.lt)⟩, fun _ => ⟨rfl, HPT.out _ _ _ _ _ HR.out.2.2.1⟩⟩
          have := HR.out.2.2.2.2.1.put 5 (.map (some (gc + 1 + 1 + 1)))
          simpa using this
        case measure => simp [intOf]
end Go.Proofs.YtnpehjgnplaabaaGreatDoor
