/- Contracts of the reference of sorted: Get, Put, Drop, Same. -/
import Derived.Test.YtpnkgldpmalklaaSrtFindIS
set_option linter.unusedVariables false
set_option linter.unusedSimpArgs false
namespace Sw
open Go
abbrev EnS := Int × ByteArray
/-- one round of the reference's Put -/
def stepP (k : Int) (v : ByteArray) (s : Bool × List EnS) (x : EnS) : Bool × List EnS :=
  if s.1 = false ∧ k ≤ x.1 then (true, if x.1 = k then s.2 ++ [(k, v)] else s.2 ++ [(k, v)] ++ [x]) else (s.1, if x.1 = k then s.2 else s.2 ++ [x])
def refPutL (k : Int) (v : ByteArray) (l : List EnS) : List EnS := let s := l.foldl (stepP k v) (false, []); if s.1 = true then s.2 else s.2 ++ [(k, v)]
def refDropL (k : Int) (l : List EnS) : List EnS := l.filter fun e => !decide (e.1 = k)
def refGetL (k : Int) (l : List EnS) : Option EnS := l.find? fun e => decide (e.1 = k)
theorem stepP_len (k : Int) (v : ByteArray) (s : Bool × List EnS) (x : EnS) : (stepP k v s x).2.length ≤ s.2.length + 2 := by
  unfold stepP
  split
  · split <;> simp
  · split <;> simp
theorem foldP_len (k : Int) (v : ByteArray) : ∀ (l : List EnS) (s : Bool × List EnS), (l.foldl (stepP k v) s).2.length ≤ s.2.length + 2 * l.length
  | [], s => by simp
  | x :: l, s => by
    have := foldP_len k v l (stepP k v s x)
    have := stepP_len k v s x
    simp only [List.foldl_cons, List.length_cons]
    omega
theorem ordI_eq (a b : Int) : ordI a b = 0 ↔ a = b := ordI_ord.iff a b
theorem foldP_true (k : Int) (v : ByteArray) : ∀ (l : List EnS) (o : List EnS), l.foldl (stepP k v) (true, o) = (true, o ++ l.filter fun e => !decide (e.1 = k))
  | [], o => by simp
  | x :: l, o => by
    rw [List.foldl_cons]
    have h1 : stepP k v (true, o) x = (true, if x.1 = k then o else o ++ [x]) := by unfold stepP; rw [if_neg (by simp)]
    rw [h1, foldP_true k v l]
    by_cases hx : x.1 = k
    · rw [if_pos hx, List.filter_cons_of_neg (by simpa using hx)]
    · rw [if_neg hx, List.filter_cons_of_pos (by simpa using hx), List.append_assoc]; rfl
theorem foldP_false (k : Int) (v : ByteArray) : ∀ (l : List EnS) (o : List EnS), Up ordI l → (let s := l.foldl (stepP k v) (false, o); if s.1 = true then s.2 else s.2 ++ [(k, v)]) = o ++ putN ordI k v l
  | [], o, _ => by simp [putN]
  | x :: l, o, hu => by
    rw [List.foldl_cons]
    unfold putN
    by_cases h1 : k ≤ x.1
    · have hs : stepP k v (false, o) x = (true, if x.1 = k then o ++ [(k, v)] else o ++ [(k, v)] ++ [x]) := by unfold stepP; rw [if_pos ⟨rfl, h1⟩]
      rw [hs, foldP_true]
      have hge : l.filter (fun e => !decide (e.1 = k)) = l := List.filter_eq_self.2 fun y hy => by
        have := (ordI_lt _ _).1 (hu.head y hy)
        simp; omega
      dsimp only
      have hlt2 : ¬ ordI x.1 k < 0 := by rw [ordI_lt]; omega
      rw [if_pos rfl, hge, if_neg hlt2]
      by_cases hx : x.1 = k
      · have h0 : ordI x.1 k = 0 := (ordI_eq _ _).2 hx
        rw [if_pos hx, if_pos h0]
        simp
      · have h0 : ¬ ordI x.1 k = 0 := fun h => hx ((ordI_eq _ _).1 h)
        simp [hx, h0]
    · have hs : stepP k v (false, o) x = (false, o ++ [x]) := by
        unfold stepP
        rw [if_neg (by simp; omega), if_neg (by show ¬ x.1 = k; omega)]
      rw [hs, foldP_false k v l _ hu.tail, if_pos (by rw [ordI_lt]; omega), List.append_assoc]
      rfl
theorem refPut_eq (k : Int) (v : ByteArray) (l : List EnS) (h : Up ordI l) : refPutL k v l = putN ordI k v l := by
  have := foldP_false k v l [] h
  rw [List.nil_append] at this
  exact this
theorem refDrop_eq (k : Int) (l : List EnS) (h : Up ordI l) : refDropL k l = dropN ordI k l := by
  rw [drop_filter ordI_ord k l h]
  unfold refDropL
  congr 1
  funext e
  rw [Bool.eq_iff_iff]
  simp [ordI_eq]
theorem refGet_eq (k : Int) (l : List EnS) (h : Up ordI l) : (refGetL k l).map (·.2) = getN ordI k l := by
  rw [get_find ordI_ord k l h]
  unfold refGetL
  congr 2
  funext e
  rw [Bool.eq_iff_iff]
  simp [ordI_eq]
theorem refGet_step (k : Int) (l : List EnS) (i : Nat) (h : i < l.length) (hn : ∀ m (hm : m < l.length), m < i → l[m].1 ≠ k) : refGetL k l = refGetL k (l.drop i) := by
  unfold refGetL
  conv => lhs; rw [← List.take_append_drop i l]
  rw [List.find?_append, List.find?_eq_none.2 (fun y hy => by
    obtain ⟨m, hm, rfl⟩ := List.getElem_of_mem hy
    rw [List.length_take] at hm
    rw [List.getElem_take]
    simpa using hn m (by omega) (by omega))]
  rfl
theorem refGet_hit (k : Int) (l : List EnS) (i : Nat) (h : i < l.length) (hn : ∀ m (hm : m < l.length), m < i → l[m].1 ≠ k) (hk : l[i].1 = k) : refGetL k l = some l[i] := by
  rw [refGet_step k l i h hn, List.drop_eq_getElem_cons h]
  unfold refGetL
  rw [List.find?_cons_of_pos (by simpa using hk)]
theorem refGet_none (k : Int) (l : List EnS) (hn : ∀ m (hm : m < l.length), l[m].1 ≠ k) : refGetL k l = none := by
  unfold refGetL
  exact List.find?_eq_none.2 fun y hy => by
    obtain ⟨m, hm, rfl⟩ := List.getElem_of_mem hy
    simpa using hn m hm
end Sw
namespace Go.Proofs.Ytpnkgldpmalklaa
open Go Go.RowKit
open Sw
theorem infoE15 : (Try.prog.info? 40).map (fun i => (i.zero, i.size, i.bytes)) = some (some (.agg #[.int .i64 0, .string ⟨#[]⟩]), 2, 24) := by kernel_rfl
set_option maxRecDepth 100000 in
set_option maxHeartbeats 4000000 in
theorem ref15Get_any (w : World) (v : Value) (l : List EnS) (k : Int) (h : SlV w 2 eCIS v l) :
    Calls Try.prog 14 #[v, .int .i64 k] w fun e w' => e = .returned (.tuple #[.string (((refGetL k l).map (·.2)).getD ⟨#[]⟩), .bool (refGetL k l).isSome]) ∧ Below w.heap.size w w' := by
  obtain ⟨A, c, rfl, hc1, hc2, hsl⟩ := h
  obtain ⟨n, hn⟩ : ∃ n, l.length = n := ⟨_, rfl⟩
  rw [hn] at hc1 ⊢
  unfold maxLen at hc2
  have HL := Lib.hid hn; clear hn
  have HS := Lib.hid hsl; clear hsl
  obtain ⟨G, hG⟩ : ∃ G, refGetL k l = G := ⟨_, rfl⟩
  rw [hG]
  have HG := Lib.hid hG; clear hG
  go_enter Try.func14, Try.ntmps14
  go_wp2_with fail
  go_loopw [4, 5, 10] (fun s b iv wr => ∃ i : Nat, i ≤ n ∧ s = .string ⟨#[]⟩ ∧ b = .bool false ∧ iv = .int .i64 i ∧ (∀ m (hm : m < l.length), m < i → l[m].1 ≠ k) ∧ Below w.heap.size w wr) (fun _ _ iv _ => n - (intOf iv).toNat)
  case atStart => exact ⟨0, Nat.zero_le _, rfl, rfl, rfl, fun m h h' => by omega, Below.refl _ _⟩
  case round =>
    obtain ⟨i, hi, rfl, rfl, rfl, hall, hb⟩ := hrel
    have HA := Lib.hid hall; clear hall
    by_cases hlt : i < n
    · have hiL : i < l.length := by have := HL.out; omega
      obtain ⟨b, off, rfl, hbb, hcs⟩ := (HS.out.below hb (Nat.le_refl _)) (by omega)
      have c0 := hcs i hiL 0 (by omega)
      have c1 := hcs i hiL 1 (by omega)
      simp only [eCIS, List.getElem?_cons_succ, List.getElem?_cons_zero, Nat.add_zero] at c0 c1
      clear hcs
      have hi1 : (i : Int) < n := by omega
      have HB := Lib.hid (hb.alloc hb.size (.cells #[.int .i64 l[i].1, .string l[i].2] 40)); clear hb
      by_cases hk : l[i].1 = k
      · have hg := refGet_hit k l i hiL HA.out hk
        have hkb : (l[i].1 == k) = true := by rw [beq_iff_eq]; exact hk
        rw [HG.out] at hg
        clear hk
        obtain ⟨x, hx⟩ : ∃ x, l[i] = x := ⟨_, rfl⟩
        simp only [hx] at c0 c1 hkb HB hg
        have HX := Lib.hid hg; clear hx hg
        go_wp2_with fail
        go_ret2
        exact ⟨by rw [HX.out]; rfl, HB.out⟩
      · have hkb : (l[i].1 == k) = false := by rw [beq_eq_false_iff_ne]; exact hk
        have HN := Lib.hid (fun m (hm : m < l.length) (h : m < i + 1) => (by
          by_cases h2 : m < i
          · exact HA.out m hm h2
          · obtain rfl : m = i := by omega
            exact hk : l[m].1 ≠ k))
        clear hk
        obtain ⟨x, hx⟩ : ∃ x, l[i] = x := ⟨_, rfl⟩
        simp only [hx] at c0 c1 hkb HB
        clear hx
        go_wp2_with fail
        go_roundw
        case rel => exact ⟨i + 1, by omega, rfl, rfl, by go_num, HN.out, HB.out⟩
        case measure => simp [intOf]; omega
    · obtain rfl : i = n := by omega
      have hg := refGet_none k l (fun m hm => HA.out m hm (by have := HL.out; omega))
      rw [HG.out] at hg
      have HX := Lib.hid hg; clear hg
      go_wp2_with fail
      go_ret2
      exact ⟨by rw [HX.out]; rfl, hb⟩
set_option maxRecDepth 100000 in
set_option maxHeartbeats 4000000 in
theorem ref15Same_yes (w : World) (v1 v2 : Value) (l : List EnS) (h1 : SlV w 2 eCIS v1 l) (h2 : SlV w 2 eCIS v2 l) :
    Calls Try.prog 26 #[v1, v2] w fun e w' => e = .returned (.bool true) ∧ ∃ m, w' = w.drewN m := by
  obtain ⟨A1, c1, rfl, hc1, hc2, hsl1⟩ := h1
  obtain ⟨A2, c2, rfl, hc3, hc4, hsl2⟩ := h2
  obtain ⟨n, hn⟩ : ∃ n, l.length = n := ⟨_, rfl⟩
  rw [hn] at hc1 hc3 ⊢
  unfold maxLen at hc2 hc4
  have HL := Lib.hid hn; clear hn
  have HS1 := Lib.hid hsl1; clear hsl1
  have HS2 := Lib.hid hsl2; clear hsl2
  go_enter Try.func26, Try.ntmps26
  go_wp2_with fail
  go_loopw [4, 5, 13] (fun o _ t wr => ∃ i m : Nat, i ≤ n ∧ t = .int .i64 i ∧ o = .bool false ∧ wr = w.drewN m) (fun _ _ t _ => n - (intOf t).toNat)
  case atStart => exact ⟨0, 0, Nat.zero_le _, rfl, rfl, rfl⟩
  case round =>
    obtain ⟨i, m, hi, rfl, rfl, rfl⟩ := hrel
    by_cases hin : i < n
    · have hil : i < l.length := by have := HL.out; omega
      obtain ⟨b1, o1, rfl, hb1, hcs1⟩ := HS1.out (by omega)
      obtain ⟨b2, o2, rfl, hb2, hcs2⟩ := HS2.out (by omega)
      have d0 := hcs1 i hil 0 (by omega)
      have d1 := hcs1 i hil 1 (by omega)
      have d3 := hcs2 i hil 0 (by omega)
      have d4 := hcs2 i hil 1 (by omega)
      simp [eCIS] at d0 d1 d3 d4
      clear hcs1 hcs2
      generalize l[i].1 = x0 at *
      generalize l[i].2 = x1 at *
      have hi0 : (0 : Int) ≤ i := by omega
      have hi1 : (i : Int) < n := by omega
      go_wp2_with fail
      go_quiet (fail)
      go_wp2_with fail
      go_roundw
      case rel => exact ⟨i + 1, _, by omega, by go_num, rfl, rfl⟩
      case measure => simp [intOf]; omega
    · obtain rfl : i = n := by omega
      clear HS1 HS2
      go_wp2_with fail
      go_ret
      exact ⟨rfl, _, rfl⟩
theorem refDrop_step (k : Int) (l : List EnS) (i : Nat) (h : i < l.length) : refDropL k (l.take (i + 1)) = if l[i].1 = k then refDropL k (l.take i) else refDropL k (l.take i) ++ [l[i]] := by
  rw [List.take_succ_eq_append_getElem h]
  unfold refDropL
  rw [List.filter_append]
  by_cases hk : l[i].1 = k
  · rw [if_pos hk, List.filter_cons_of_neg (by simpa using hk)]; simp
  · rw [if_neg hk, List.filter_cons_of_pos (by simpa using hk)]; simp
/-- a row of the reference's that the call owns -/
def Own15 (w : World) (base : Nat) (u : Value) (l : List EnS) : Prop := w.ownsRow base 40 2 u l.length (l.flatMap eCIS)
theorem Own15.app {w1 : World} {base g cap n : Nat} {l : List EnS} {x : EnS} (h : w1.ownsRow base 40 2 (.slice (some ⟨g, 0, none⟩) (n + 1) cap) (n + 1) (l.flatMap eCIS ++ [.int .i64 x.1, .string x.2])) (hn : l.length = n) : Own15 w1 base (.slice (some ⟨g, 0, none⟩) (n + 1) cap) (l ++ [x]) := by
  unfold Own15
  rw [List.length_append, List.length_singleton, hn, List.flatMap_append]
  simpa [eCIS] using h
set_option maxRecDepth 100000 in
set_option maxHeartbeats 4000000 in
theorem ref15Drop_any (w : World) (v : Value) (l : List EnS) (k : Int) (h : SlV w 2 eCIS v l) (hl : l.length ≤ 1000) :
    Calls Try.prog 19 #[v, .int .i64 k] w fun e w' => ∃ u, e = .returned u ∧ Own15 w' w.heap.size u (refDropL k l) ∧ Below w.heap.size w w' := by
  obtain ⟨A, c, rfl, hc1, hc2, hsl⟩ := h
  obtain ⟨n, hn⟩ : ∃ n, l.length = n := ⟨_, rfl⟩
  rw [hn] at hc1 hl ⊢
  unfold maxLen at hc2
  have HL := Lib.hid hn; clear hn
  have HS := Lib.hid hsl; clear hsl
  go_enter Try.func19, Try.ntmps19
  go_wp2_with fail
  go_loopw [5, 10] (fun o iv wr => ∃ i : Nat, i ≤ n ∧ iv = .int .i64 i ∧ Own15 wr w.heap.size o (refDropL k (l.take i)) ∧ Below w.heap.size w wr) (fun _ iv _ => n - (intOf iv).toNat)
  case atStart => exact ⟨0, Nat.zero_le _, rfl, World.ownsRow_nil _ _ _ _, Below.refl _ _⟩
  case round =>
    obtain ⟨i, hi, rfl, ho, hb⟩ := hrel
    by_cases hlt : i < n
    · have hiL : i < l.length := by have := HL.out; omega
      obtain ⟨b, off, rfl, hbb, hcs⟩ := (HS.out.below hb (Nat.le_refl _)) (by omega)
      have c0 := hcs i hiL 0 (by omega)
      have c1 := hcs i hiL 1 (by omega)
      simp only [eCIS, List.getElem?_cons_succ, List.getElem?_cons_zero, Nat.add_zero] at c0 c1
      clear hcs
      have hi1 : (i : Int) < n := by omega
      have hst := refDrop_step k l i hiL
      have hll : (refDropL k (l.take i)).length ≤ i := Nat.le_trans (List.length_filter_le _ _) (by rw [List.length_take]; omega)
      obtain ⟨x, hx⟩ : ∃ x, l[i] = x := ⟨_, rfl⟩
      simp only [hx] at c0 c1 hst
      clear hx
      by_cases hk : x.1 = k
      · rw [if_pos hk] at hst
        have hkb : (x.1 != k) = false := by rw [bne_eq_false_iff_eq]; exact hk
        have HH := Lib.hid (And.intro hst (And.intro (own_kept ho ((Below.refl _ wr).alloc (Nat.le_refl _) (.cells #[.int .i64 x.1, .string x.2] 40))) (hb.alloc hb.size (.cells #[.int .i64 x.1, .string x.2] 40))))
        clear hst hk hb ho
        go_wp2_with fail
        go_roundw
        case rel => exact ⟨i + 1, by omega, by go_num, by rw [HH.out.1]; exact HH.out.2.1, HH.out.2.2⟩
        case measure => simp [intOf]; omega
      · rw [if_neg hk] at hst
        have hkb : (x.1 != k) = true := by rw [bne_iff_ne]; exact hk
        have hbs := hb.size
        obtain ⟨A3, c3, rfl, _, _, _⟩ := SlV_of_any ho
        have HO := Lib.hid ho
        have HH := Lib.hid (And.intro hst hb)
        clear hst hk hb ho
        generalize refDropL k (l.take i) = L at *
        obtain ⟨m, hm⟩ : ∃ m, L.length = m := ⟨_, rfl⟩
        unfold Own15 at HO
        rw [hm] at HO hll ⊢
        go_wp2_with (at_builtin; refine wpList_app rfl _ _ 28 rfl w.heap.size 40 (.agg #[.int .i64 0, .string ⟨#[]⟩]) 2 24 Try.underlying28 infoE15 rfl (by decide) _ m _ rfl ((HO.out.alloc _).alloc _) (wr.heap.size + 1) 1 #[.int .i64 x.1, .string x.2] 40 rfl (blk_snd _ _ _ _) rfl (by simp [Value.oneCell']) (by omega) (by decide) (by simp; omega) _ rfl ?_; intro g cap w1 hown1 hgrow1 hat hlt1)
        have HN := Lib.hid (And.intro (Own15.app hown1 hm) (own_below HO.out ((HH.out.2.alloc HH.out.2.size _).alloc (by simp; omega) _) hgrow1 (Nat.le_refl _) (by simp; omega)))
        clear hown1 hgrow1 hat hlt1
        go_wp2_with fail
        go_roundw
        case rel => exact ⟨i + 1, by omega, by go_num, by rw [HH.out.1]; exact HN.out.1, HN.out.2⟩
        case measure => simp [intOf]; omega
    · obtain rfl : i = n := by omega
      have hf : l.take i = l := List.take_of_length_le (by have := HL.out; omega)
      rw [hf] at ho
      have HO := Lib.hid ho; clear ho hf
      go_wp2_with fail
      go_ret
      exact ⟨_, rfl, HO.out, hb⟩
theorem foldP_step (k : Int) (v : ByteArray) (l : List EnS) (i : Nat) (h : i < l.length) : (l.take (i + 1)).foldl (stepP k v) (false, []) = stepP k v ((l.take i).foldl (stepP k v) (false, [])) l[i] := by
  rw [List.take_succ_eq_append_getElem h, List.foldl_append]
  rfl
set_option maxRecDepth 100000 in
set_option maxHeartbeats 8000000 in
theorem ref15Put_any (w : World) (u : Value) (l : List EnS) (k : Int) (v : ByteArray) (h : SlV w 2 eCIS u l) (hl : l.length ≤ 1000) :
    Calls Try.prog 16 #[u, .int .i64 k, .string v] w fun e w' => ∃ r, e = .returned r ∧ Own15 w' w.heap.size r (refPutL k v l) ∧ Below w.heap.size w w' := by
  obtain ⟨A, c, rfl, hc1, hc2, hsl⟩ := h
  obtain ⟨n, hn⟩ : ∃ n, l.length = n := ⟨_, rfl⟩
  rw [hn] at hc1 hl ⊢
  unfold maxLen at hc2
  have HL := Lib.hid hn; clear hn
  have HS := Lib.hid hsl; clear hsl
  have HR := Lib.hid (show refPutL k v l = (let s := l.foldl (stepP k v) (false, []); if s.1 = true then s.2 else s.2 ++ [(k, v)]) from rfl)
  generalize refPutL k v l = R at *
  go_enter Try.func16, Try.ntmps16
  go_wp2_with fail
  go_loopw [7, 8, 13] (fun o d iv wr => ∃ i : Nat, i ≤ n ∧ iv = .int .i64 i ∧ d = .bool ((l.take i).foldl (stepP k v) (false, [])).1 ∧ Own15 wr w.heap.size o ((l.take i).foldl (stepP k v) (false, [])).2 ∧ Below w.heap.size w wr) (fun _ _ iv _ => n - (intOf iv).toNat)
  case atStart => exact ⟨0, Nat.zero_le _, rfl, rfl, World.ownsRow_nil _ _ _ _, Below.refl _ _⟩
  case round =>
    obtain ⟨i, hi, rfl, rfl, ho, hb⟩ := hrel
    have hfl := foldP_len k v (l.take i) (false, [])
    rw [List.length_take] at hfl
    have hbs := hb.size
    by_cases hlt : i < n
    · have hiL : i < l.length := by have := HL.out; omega
      obtain ⟨b, off, rfl, hbb, hcs⟩ := (HS.out.below hb (Nat.le_refl _)) (by omega)
      have c0 := hcs i hiL 0 (by omega)
      have c1 := hcs i hiL 1 (by omega)
      simp only [eCIS, List.getElem?_cons_succ, List.getElem?_cons_zero, Nat.add_zero] at c0 c1
      clear hcs
      have hi1 : (i : Int) < n := by omega
      have hst := foldP_step k v l i hiL
      obtain ⟨x, hx⟩ : ∃ x, l[i] = x := ⟨_, rfl⟩
      simp only [hx] at c0 c1 hst
      clear hx
      obtain ⟨S, hS⟩ : ∃ S, (l.take i).foldl (stepP k v) (false, []) = S := ⟨_, rfl⟩
      rw [hS] at hst ho hfl ⊢
      obtain ⟨d, L⟩ := S
      obtain ⟨A3, c3, rfl, _, _, _⟩ := SlV_of_any ho
      have HO := Lib.hid ho
      clear ho hS
      simp only at hfl HO ⊢
      obtain ⟨m, hm⟩ : ∃ m, L.length = m := ⟨_, rfl⟩
      unfold Own15 at HO
      rw [hm] at HO hfl ⊢
      have hm2 : m ≤ 2000 := by simp at hfl; omega
      clear hfl
      cases d with
      | true =>
        by_cases hk : x.1 = k
        · have hkb : (x.1 != k) = false := by rw [bne_eq_false_iff_eq]; exact hk
          have hs2 : stepP k v (true, L) x = (true, L) := by unfold stepP; rw [if_neg (by simp), if_pos hk]
          rw [hs2] at hst
          have HH := Lib.hid (And.intro hst (And.intro (own_kept HO.out ((Below.refl _ wr).alloc (Nat.le_refl _) (.cells #[.int .i64 x.1, .string x.2] 40))) (hb.alloc hb.size (.cells #[.int .i64 x.1, .string x.2] 40))))
          clear hst hk hb hs2
          go_wp2_with fail
          go_roundw
          case rel => exact ⟨i + 1, by omega, by go_num, by rw [HH.out.1], by rw [HH.out.1]; unfold Own15; rw [hm]; exact HH.out.2.1, HH.out.2.2⟩
          case measure => simp [intOf]; omega
        · have hkb : (x.1 != k) = true := by rw [bne_iff_ne]; exact hk
          have hs2 : stepP k v (true, L) x = (true, L ++ [x]) := by unfold stepP; rw [if_neg (by simp), if_neg hk]
          rw [hs2] at hst
          have HH := Lib.hid (And.intro hst hb)
          clear hst hk hb hs2
          go_wp2_with (at_builtin; refine wpList_app rfl _ _ 28 rfl w.heap.size 40 (.agg #[.int .i64 0, .string ⟨#[]⟩]) 2 24 Try.underlying28 infoE15 rfl (by decide) _ m _ rfl ((HO.out.alloc _).alloc _) (wr.heap.size + 1) 1 #[.int .i64 x.1, .string x.2] 40 rfl (blk_snd _ _ _ _) rfl (by simp [Value.oneCell']) (by omega) (by decide) (by simp; omega) _ rfl ?_; intro g cap w1 hown1 hgrow1 hat hlt1)
          have HN := Lib.hid (And.intro (Own15.app (x := x) hown1 hm) (own_below HO.out ((HH.out.2.alloc HH.out.2.size _).alloc (by simp; omega) _) hgrow1 (Nat.le_refl _) (by simp; omega)))
          clear hown1 hgrow1 hat hlt1
          go_wp2_with fail
          go_roundw
          case rel => exact ⟨i + 1, by omega, by go_num, by rw [HH.out.1], by rw [HH.out.1]; exact HN.out.1, HN.out.2⟩
          case measure => simp [intOf]; omega
      | false =>
        by_cases hge : k ≤ x.1
        · by_cases hk : x.1 = k
          · have hkb : (x.1 != k) = false := by rw [bne_eq_false_iff_eq]; exact hk
            have hs2 : stepP k v (false, L) x = (true, L ++ [(k, v)]) := by unfold stepP; rw [if_pos ⟨rfl, hge⟩, if_pos hk]
            rw [hs2] at hst
            have HH := Lib.hid (And.intro hst hb)
            clear hst hk hb hs2
            go_wp2_with (at_builtin; refine wpList_app rfl _ _ 28 rfl w.heap.size 40 (.agg #[.int .i64 0, .string ⟨#[]⟩]) 2 24 Try.underlying28 infoE15 rfl (by decide) _ m _ rfl ((HO.out.alloc _).alloc _) (wr.heap.size + 1) 1 #[.int .i64 k, .string v] 40 rfl (blk_snd _ _ _ _) rfl (by simp [Value.oneCell']) (by omega) (by decide) (by simp; omega) _ rfl ?_; intro g cap w1 hown1 hgrow1 hat hlt1; have hbx := (blk_fst wr #[.int .i64 x.1, .string x.2] 40 (.cells #[.int .i64 k, .string v] 40)).grown hgrow1 (fun e => own_ne HO.out wr.heap.size (Nat.le_refl _) e.symm); have e0 := hbx.cell 0; have e1 := hbx.cell 1; simp at e0 e1)
            have HN := Lib.hid (And.intro (Own15.app (x := (k, v)) hown1 hm) (own_below HO.out ((HH.out.2.alloc HH.out.2.size _).alloc (by simp; omega) _) hgrow1 (Nat.le_refl _) (by simp; omega)))
            clear hown1 hgrow1 hat hlt1
            go_wp2_with fail
            go_roundw
            case rel => exact ⟨i + 1, by omega, by go_num, by rw [HH.out.1], by rw [HH.out.1]; exact HN.out.1, HN.out.2⟩
            case measure => simp [intOf]; omega
          · have hkb : (x.1 != k) = true := by rw [bne_iff_ne]; exact hk
            have hs2 : stepP k v (false, L) x = (true, L ++ [(k, v)] ++ [x]) := by unfold stepP; rw [if_pos ⟨rfl, hge⟩, if_neg hk]
            rw [hs2] at hst
            have HH := Lib.hid (And.intro hst hb)
            clear hst hk hb hs2
            go_wp2_with (first | (at_builtin; refine wpList_app rfl _ _ 28 rfl w.heap.size 40 (.agg #[.int .i64 0, .string ⟨#[]⟩]) 2 24 Try.underlying28 infoE15 rfl (by decide) _ m _ rfl ((HO.out.alloc _).alloc _) (wr.heap.size + 1) 1 #[.int .i64 k, .string v] 40 rfl (blk_snd _ _ _ _) rfl (by simp [Value.oneCell']) (by omega) (by decide) (by simp; omega) _ rfl ?_; intro g cap w1 hown1 hgrow1 hat hlt1; have hbx := (blk_fst wr #[.int .i64 x.1, .string x.2] 40 (.cells #[.int .i64 k, .string v] 40)).grown hgrow1 (fun e => own_ne HO.out wr.heap.size (Nat.le_refl _) e.symm); have e0 := hbx.cell 0; have e1 := hbx.cell 1; simp at e0 e1; have hw1s : w.heap.size ≤ w1.heap.size := by have := hgrow1.size; simp at this; omega) | (at_builtin; refine wpList_app rfl _ _ 28 rfl w.heap.size 40 (.agg #[.int .i64 0, .string ⟨#[]⟩]) 2 24 Try.underlying28 infoE15 rfl (by decide) _ (m + 1) _ rfl (hown1.alloc _) w1.heap.size 1 #[.int .i64 x.1, .string x.2] 40 rfl (Blk.new _ _ _) rfl (by simp [Value.oneCell']) (by omega) (by decide) (by simp; omega) _ rfl ?_; intro g2 cap2 w2 hown2 hgrow2 hat2 hlt2))
            have HB1 := own_below HO.out ((HH.out.2.alloc HH.out.2.size _).alloc (by simp; omega) _) hgrow1 (Nat.le_refl _) (by simp; omega)
            have HN := Lib.hid (And.intro (Own15.app (l := L ++ [(k, v)]) (x := x) (by simpa [eCIS] using hown2) (by rw [List.length_append, hm]; rfl)) (own_below hown1 (HB1.alloc HB1.size _) hgrow2 (Nat.le_refl _) (by simp; omega)))
            clear hown1 hgrow1 hat hlt1 hown2 hgrow2 hat2 hlt2 HB1 hbx
            go_wp2_with fail
            go_roundw
            case rel => exact ⟨i + 1, by omega, by go_num, by rw [HH.out.1], by rw [HH.out.1]; exact HN.out.1, HN.out.2⟩
            case measure => simp [intOf]; omega
        · have hk : ¬ x.1 = k := by omega
          have hkb : (x.1 != k) = true := by rw [bne_iff_ne]; exact hk
          have hs2 : stepP k v (false, L) x = (false, L ++ [x]) := by unfold stepP; rw [if_neg (by simp; omega), if_neg hk]
          rw [hs2] at hst
          have HH := Lib.hid (And.intro hst hb)
          clear hst hk hb hs2
          go_wp2_with (at_builtin; refine wpList_app rfl _ _ 28 rfl w.heap.size 40 (.agg #[.int .i64 0, .string ⟨#[]⟩]) 2 24 Try.underlying28 infoE15 rfl (by decide) _ m _ rfl ((HO.out.alloc _).alloc _) (wr.heap.size + 1) 1 #[.int .i64 x.1, .string x.2] 40 rfl (blk_snd _ _ _ _) rfl (by simp [Value.oneCell']) (by omega) (by decide) (by simp; omega) _ rfl ?_; intro g cap w1 hown1 hgrow1 hat hlt1)
          have HN := Lib.hid (And.intro (Own15.app (x := x) hown1 hm) (own_below HO.out ((HH.out.2.alloc HH.out.2.size _).alloc (by simp; omega) _) hgrow1 (Nat.le_refl _) (by simp; omega)))
          clear hown1 hgrow1 hat hlt1
          go_wp2_with fail
          go_roundw
          case rel => exact ⟨i + 1, by omega, by go_num, by rw [HH.out.1], by rw [HH.out.1]; exact HN.out.1, HN.out.2⟩
          case measure => simp [intOf]; omega
    · obtain rfl : i = n := by omega
      have hf : l.take i = l := List.take_of_length_le (by have := HL.out; omega)
      have hR := HR.out
      rw [hf] at ho hfl ⊢
      have HO := Lib.hid ho
      obtain ⟨A3, c3, rfl, _, _, _⟩ := SlV_of_any ho
      generalize l.foldl (stepP k v) (false, []) = S at *
      obtain ⟨d, L⟩ := S
      clear ho hf HR
      simp only at hR hfl HO ⊢
      cases d with
      | true =>
        simp only [if_true] at hR
        have HQ := Lib.hid hR; clear hR
        go_wp2_with fail
        go_ret
        exact ⟨_, rfl, by rw [HQ.out]; exact HO.out, hb⟩
      | false =>
        simp only [Bool.false_eq_true, if_false] at hR
        have HQ := Lib.hid hR; clear hR
        have HB := Lib.hid hb; clear hb
        obtain ⟨m, hm⟩ : ∃ m, L.length = m := ⟨_, rfl⟩
        unfold Own15 at HO
        rw [hm] at HO hfl ⊢
        go_wp2_with (at_builtin; refine wpList_app rfl _ _ 28 rfl w.heap.size 40 (.agg #[.int .i64 0, .string ⟨#[]⟩]) 2 24 Try.underlying28 infoE15 rfl (by decide) _ m _ rfl (HO.out.alloc _) wr.heap.size 1 #[.int .i64 k, .string v] 40 rfl (Blk.new _ _ _) rfl (by simp [Value.oneCell']) (by simp at hfl; omega) (by decide) (by simp; omega) _ rfl ?_; intro g cap w1 hown1 hgrow1 hat hlt1)
        have HN := Lib.hid (And.intro (Own15.app (x := (k, v)) hown1 hm) (own_below HO.out (HB.out.alloc HB.out.size _) hgrow1 (Nat.le_refl _) (by simp; omega)))
        clear hown1 hgrow1 hat hlt1
        go_wp2_with fail
        go_ret
        exact ⟨_, rfl, by rw [HQ.out]; exact HN.out.1, HN.out.2⟩
end Go.Proofs.Ytpnkgldpmalklaa
