/- Several texts, joined for the limit of sixty files; each one opens with its own comment. -/
import Derived.Test.YtmpgmgjokliceaaGreatDoorJoin34
import Derived.Test.YtmpgmgjokliceaaGreatDoorJoin16
import Derived.Test.YtmpgmgjokliceaaGreatDoorJoin21
import Derived.Test.YtmpgmgjokliceaaGreatDoorJoin13
import Derived.ArgAppend
import Derived.Test.YtmpgmgjokliceaaGreatDoorJoin29
import Derived.Test.YtmpgmgjokliceaaGreatDoorJoin6
import Derived.Test.YtmpgmgjokliceaaGreatDoorJoin18
/- The reference's Put of paths in order. -/
set_option linter.unusedVariables false
set_option linter.unusedSimpArgs false
namespace Sw
open Go
theorem ordS_lt {p q : ByteArray} : ordS p q < 0 ↔ ordS p q = -1 := by
  rcases ordS_three p q with h | h | h <;> omega
/-- a path put where it stands -/
theorem ins_rise {ps : List ByteArray} {p : ByteArray} {j : Nat} (h : Rise ps) (hj : j ≤ ps.length) (h1 : ∀ i (hi : i < ps.length), i < j → ordS ps[i] p = -1) (h2 : ∀ (h : j < ps.length), ¬ ordS ps[j] p = -1 ∧ ¬ ps[j] = p) : Rise (ps.take j ++ p :: ps.drop j) := by
  unfold Rise at *
  have hcut := h
  rw [← List.take_append_drop j ps, List.pairwise_append] at hcut
  have hlo : ∀ a ∈ ps.take j, ordS a p < 0 := fun a ha => by
    obtain ⟨i, hi, rfl⟩ := List.getElem_of_mem ha
    rw [List.length_take] at hi
    rw [List.getElem_take, ordS_lt]
    exact h1 i (by omega) (by omega)
  have hhi : ∀ b ∈ ps.drop j, ordS p b < 0 := fun b hb => by
    obtain ⟨i, hi, rfl⟩ := List.getElem_of_mem hb
    rw [List.length_drop] at hi
    rw [List.getElem_drop]
    have hjl : j < ps.length := by omega
    have h3 := h2 hjl
    have h4 : ordS p ps[j] < 0 := by
      have h5 := ordS_neg ps[j] p
      rcases ordS_three ps[j] p with h6 | h6 | h6
      · exact absurd h6 h3.1
      · exact absurd (ordS_zero h6) h3.2
      · omega
    by_cases hi0 : i = 0
    · subst hi0; exact h4
    · have h7 := List.pairwise_iff_getElem.1 h j (j + i) hjl (by omega) (by omega)
      exact ordS_ord.trans _ _ _ h4 h7
  rw [List.pairwise_append, List.pairwise_cons]
  refine ⟨hcut.1, ⟨hhi, hcut.2.1⟩, fun a ha b hb => ?_⟩
  rcases List.mem_cons.1 hb with rfl | hb
  · exact hlo a ha
  · exact hcut.2.2 a ha b hb
theorem ins_mem (ps : List ByteArray) (p : ByteArray) (j : Nat) (q : ByteArray) : q ∈ ps.take j ++ p :: ps.drop j ↔ q = p ∨ q ∈ ps := by
  rw [List.mem_append, List.mem_cons]
  constructor
  · rintro (h | h | h)
    · exact .inr (List.mem_of_mem_take h)
    · exact .inl h
    · exact .inr (List.mem_of_mem_drop h)
  · rintro (h | h)
    · exact .inr (.inl h)
    · rw [← List.take_append_drop j ps, List.mem_append] at h
      exact h.elim .inl (fun h => .inr (.inr h))
/-- what Put leaves -/
def PutP (ps : List ByteArray) (p : ByteArray) (qs : List ByteArray) : Prop := (Rise ps → Rise qs) ∧ (∀ q, q ∈ qs ↔ q = p ∨ q ∈ ps) ∧ qs.length ≤ ps.length + 1 ∧ 0 < qs.length
open Go.RowKit in
/-- 'append(l[:k:k], x)': no room: a new row -/
theorem wpList_app_fullP {P : Program} {w : World} {ops : Array Oper} {rest : List Oper} {o : Oper} {a : Act} {Q : Exit → Act → World → Prop} (hgd : o.guard = none) (s x : Operand) (t : TypeId)
    (ho : o.op = .call { callee := .builtin .append, args := #[s, x], argTypes := #[t, t] })
    (e : TypeId) (z : Value) (size bytes : Nat) (ht : P.underlying t = some (.slice e)) (hi : (P.info? e).map (fun i => (i.zero, i.size, i.bytes)) = some (some z, size, bytes)) (hzs : z.cells.size = size) (hsz : 0 < size)
    (ao : Option Addr) (n : Nat) (olds : List Value) (hs : a.eval s = .slice ao n n) (hnone : ao = none → n = 0) (hlo : olds.length = n * size) (holds : ∀ b, ao = some b → ∀ j u, olds[j]? = some u → w.cell? (b.add j) = some u)
    (B : Nat) (c : Nat) (news : Array Value) (te : TypeId) (hx : a.eval x = .slice (some ⟨B, 0, none⟩) 1 c) (hB : Blk w B te news) (hl : news.size = size) (h1 : ∀ u ∈ news.toList, u.oneCell' = true)
    (hn : n + 1 ≤ 1000000) (hby : bytes ≤ 1000000)
    (h : ∀ v' w', w'.ownsRow w.heap.size e size v' (n + 1) (olds ++ news.toList) → w.grownBy w' none → wpList P ops Q rest (a.put o.dst v') w') :
    wpList P ops Q (o :: rest) a w := by
  obtain ⟨i, hi, hz, hs2, hb⟩ := info_parts hi
  refine wpList_append_grows w hgd s x t ho e i z size bytes ht hi hz hs2 hb hzs hsz ao n n olds hs (fun q => ⟨hnone q, hnone q⟩) hlo holds ⟨B, 0, none⟩ 1 c news.toList hx (by simpa using hl) ?_ h1 (Nat.lt_succ_self _) (by unfold maxLen; omega) ?_ h
  · exact World.news_of_block hB
  · calc (n + 1) * bytes ≤ 1000000 * 1000000 := Nat.mul_le_mul hn hby
      _ ≤ 140737488355328 := by decide
end Sw
namespace Go.Proofs.YtmpgmgjokliceaaGreatDoor
open Go Go.RowKit
open Sw
theorem infoStP : (Tryz.prog.info? 9).map (fun i => (i.zero, i.size, i.bytes)) = some (some (.string ⟨#[]⟩), 1, 16) := by kernel_rfl
theorem sE_len (s : ByteArray) : (sE s).length = 1 := rfl
theorem sE_one (s : ByteArray) : ∀ u ∈ sE s, u.oneCell' = true := fun u hu => by
  simp only [sE, List.mem_cons, List.not_mem_nil, or_false] at hu
  subst hu; rfl
theorem grown_none_belowP {A B : World} (h : A.grownBy B none) : Below A.heap.size A B := ⟨h.os, h.tape, h.output, h.size, fun k hk => h.block k hk (by simp)⟩
/-- paths in a row of one's own -/
def OwnS (w : World) (base : Nat) (v : Value) (ps : List ByteArray) : Prop := w.ownsRow base 9 1 v ps.length (ps.flatMap sE)
theorem OwnS.below {w w' : World} {base : Nat} {v : Value} {ps : List ByteArray} (h : OwnS w base v ps) (hb : Below w.heap.size w w') : OwnS w' base v ps := own_kept h hb
theorem OwnS.slv {w : World} {base : Nat} {v : Value} {ps : List ByteArray} (h : OwnS w base v ps) : SlV w 1 sE v ps := SlV.of_own h sE_len (by decide)
/-- what Put answers -/
def PutAns (w' : World) (B : Nat) (ps : List ByteArray) (p : ByteArray) (e : Ending) : Prop := ∃ u qs, e = .returned u ∧ OwnS w' B u qs ∧ PutP ps p qs
theorem PutAns.put {w' : World} {B : Nat} {ps qs : List ByteArray} {p : ByteArray} {u : Value} (h1 : OwnS w' B u qs) (h2 : PutP ps p qs) : PutAns w' B ps p (.returned u) := ⟨u, qs, rfl, h1, h2⟩
theorem ownS_drop {w : World} {base n c g : Nat} {L : List ByteArray} (h : w.ownsRow base 9 1 (.slice (some ⟨g, 0, none⟩) n c) n (L.flatMap sE)) (hn : L.length = n) (j : Nat) (hj : j ≤ n) (T : Addr) (hT : j < c → T = ⟨g, 0 + j * 1, none⟩) :
    SlV w 1 sE (.slice (some T) (n - j) (c - j)) (L.drop j) := by
  subst hn
  exact ((Lies.of_own h sE_len (by decide)).drop sE_len j hj T hT).slv sE_len
theorem ownS_olds {w : World} {base n c g : Nat} {L : List ByteArray} (h : w.ownsRow base 9 1 (.slice (some ⟨g, 0, none⟩) n c) n (L.flatMap sE)) (hn : L.length = n) (k : Nat) (hk : k ≤ n) :
    ((L.take k).flatMap sE).length = k * 1 ∧ ∀ b, (some (⟨g, 0, none⟩ : Addr)) = some b → ∀ j u, ((L.take k).flatMap sE)[j]? = some u → w.cell? (b.add j) = some u := by
  subst hn
  have hlen : ((L.take k).flatMap sE).length = k * 1 := by rw [flat_len sE_len, List.length_take]; omega
  refine ⟨hlen, ?_⟩
  rintro b hb j u hj
  obtain rfl := Option.some.inj hb
  have hjl := (List.getElem?_eq_some_iff.1 hj).1
  rw [hlen] at hjl
  obtain ⟨g', cap, cur, hA, hbg, hB, hnc, hcm, hcs, htk⟩ := own_form h (by omega)
  obtain rfl : g = g' := by injection hA with e1 e2 e3; exact congrArg Addr.block (Option.some.inj e1)
  rw [flat_take sE_len, List.getElem?_take, if_pos hjl, ← htk, List.getElem?_take, if_pos (by omega)] at hj
  rw [add_mk, hB.cell, Nat.zero_add, ← Array.getElem?_toList, hj]
set_option maxRecDepth 100000 in
set_option maxHeartbeats 8000000 in
theorem refPutP_any (w : World) (B : Nat) (v : Value) (ps : List ByteArray) (p : ByteArray) (h : OwnS w B v ps) (hB : B ≤ w.heap.size) (hn : ps.length ≤ 1000) (hz : ∀ q ∈ ps, q.size ≤ 90000) (hp : p.size ≤ 90000) (hnil : ps = [] → v = .slice none 0 0) :
    Calls Tryz.prog 43 #[v, .string p] w fun e w' => PutAns w' B ps p e ∧ Below w.heap.size w w' := by
  obtain ⟨n, hl⟩ : ∃ n, ps.length = n := ⟨_, rfl⟩
  have hs0 := h.slv
  unfold OwnS at h
  rw [hl] at h hn
  obtain ⟨A, c, rfl, hnc, hcm, -⟩ := SlV_of_any h
  unfold maxLen at hcm
  have HO := Lib.hid (And.intro h (And.intro hs0 hz))
  have HL := Lib.hid hl
  clear hs0 hz hl
  by_cases h0 : n = 0
  · subst h0
    obtain rfl : ps = [] := List.length_eq_zero_iff.1 HL.out
    obtain ⟨rfl, rfl⟩ : A = none ∧ c = 0 := by have := hnil rfl; injection this with e1 e2 e3; exact ⟨e1, e3⟩
    clear h HO hnil
    go_enter Tryz.func43, Tryz.ntmps43
    go_wp2_with fail
    go_loopw [5] (fun kv wr => kv = .int .i64 0 ∧ wr = w) (fun kv _ => 0)
    case atStart => exact ⟨rfl, rfl⟩
    case round =>
      obtain ⟨rfl, hw⟩ := hrel
      rw [hw]
      clear hw
      go_upto_region 7 with (at_builtin; go_loud (refine wpList_app_slv rfl _ _ 24 rfl w.heap.size 9 (.string ⟨#[]⟩) 1 16 Tryz.underlying24 infoStP rfl (by decide) _ 0 _ rfl (own_emptyB w w.heap.size _ 1 (Nat.le_refl _)) sE sE_len sE_one _ [] rfl ⟨none, 0, rfl, Nat.le_refl _, by simp [maxLen], SlOf.nil _ _ _ _⟩ (by simp) (by decide) (by simp) ?_; intro v2 w2 ho2 hg2; obtain ⟨A2, c2, rfl, -, -, -⟩ := SlV_of_any ho2))
      have hb2 : Below w.heap.size w w2 := ((Below.refl _ w).alloc (Nat.le_refl _) _).grown hg2 (by simp) (fun q hq => by cases hq; exact Nat.le_refl _)
      have hba : Below w2.heap.size w2 (w2.alloc (.cells #[.string p] 9)) := (Below.refl _ w2).alloc (Nat.le_refl _) _
      have H2 := Lib.hid (And.intro hb2 ho2)
      have hs2 := hb2.size
      clear hb2 ho2 hg2
      have hsl2 : SlV w2 1 sE (.slice A2 0 c2) [] := SlV.of_own (l := []) H2.out.2 sE_len (by decide)
      have HSL := Lib.hid hsl2; clear hsl2
      have HBA := Lib.hid hba; clear hba
      go_wp2_with (first | (at_builtin; refine wpList_app_fullP rfl _ _ 24 rfl 9 (.string ⟨#[]⟩) 1 16 Tryz.underlying24 infoStP rfl (by decide) none 0 [] rfl (fun _ => rfl) rfl (fun b h => by cases h) w2.heap.size 1 #[.string p] 9 rfl (Blk.new _ _ _) rfl (by simp [Value.oneCell']) (by omega) (by decide) ?_; intro v4 w4 ho4 hg4; have hb4 : Below w2.heap.size w2 w4 := (HBA.out.trans ((grown_none_belowP hg4).mono HBA.out.size)); have hsl4 := HSL.out.below hb4 (Nat.le_refl _); have hz4 := hb4.size; obtain ⟨A4, c4, rfl, -, -, -⟩ := SlV_of_any ho4; have ho4' := own_wide ho4 (show w2.heap.size ≤ _ by simp); have H4 := Lib.hid (And.intro ho4' (And.intro hb4 hsl4)); clear ho4 hg4 hb4 hsl4 ho4') | (at_builtin; refine wpList_app_slv rfl _ _ 24 rfl w2.heap.size 9 (.string ⟨#[]⟩) 1 16 Tryz.underlying24 infoStP rfl (by decide) (.slice A4 (0 + 1) c4) (0 + 1) _ rfl H4.out.1 sE sE_len sE_one _ [] rfl H4.out.2.2 (by simp) (by decide) hz4 ?_; intro v5 w5 ho5 hg5; obtain ⟨A5, c5, rfl, -, -, -⟩ := SlV_of_any ho5))
      have hb5 : Below w2.heap.size w4 w5 := (Below.refl _ w4).grown hg5 hz4 (fun q hq => (H4.out.1.lt q hq).1)
      have hbF := H2.out.1.trans ((H4.out.2.1.trans (hb5.mono (Nat.le_refl _))).mono H2.out.1.size)
      have HF := Lib.hid (And.intro (own_wide ho5 (show w.heap.size ≤ w2.heap.size from H2.out.1.size)) hbF)
      clear ho5 hg5 hb5 hbF
      go_wp2_with fail
      go_ret
      refine ⟨PutAns.put (qs := [p]) ?_ ⟨fun _ => List.pairwise_singleton _ _, fun q => by simp, by simp, by simp⟩, HF.out.2⟩
      have h9 := own_wide HF.out.1 hB
      unfold OwnS
      simpa [sE] using h9
  · have hn1 : 0 < n := Nat.pos_of_ne_zero h0
    obtain ⟨g, rfl, hgl⟩ : ∃ g, A = some ⟨g, 0, none⟩ ∧ g < w.heap.size := by
      obtain ⟨g, cap, cur, hA, hbg, hB, _⟩ := own_form HO.out.1 hn1
      injection hA with e1 e2 e3
      exact ⟨g, e1, hB.lt⟩
    clear h hnil
    have hn1000 : (n : Int) ≤ 1000 := by omega
    have hnc0 : (n : Int) ≤ c := by omega
    go_enter Tryz.func43, Tryz.ntmps43
    go_wp2_with fail
    go_loopw [5] (fun kv wr => ∃ j : Nat, j ≤ n ∧ kv = .int .i64 j ∧ (∀ i (hi : i < ps.length), i < j → ordS ps[i] p = -1) ∧ Below w.heap.size w wr) (fun kv _ => n - (intOf kv).toNat)
    case atStart => exact ⟨0, Nat.zero_le _, rfl, fun i _ h => absurd h (Nat.not_lt_zero _), Below.refl _ _⟩
    case round =>
      obtain ⟨j, hj, rfl, hall, hb⟩ := hrel
      have HA := Lib.hid hall; clear hall
      have hj0 : (0 : Int) ≤ j := by omega
      have hjc : (j : Int) ≤ c := by omega
      by_cases hlt : j < n
      · have hjl : j < ps.length := by have := HL.out; omega
        have hji : (j : Int) < n := by omega
        have hsl := HO.out.2.1.below hb (Nat.le_refl _)
        obtain ⟨A', c', hA, -, -, hso⟩ := hsl
        obtain ⟨rfl, -, rfl⟩ : some (⟨g, 0, none⟩ : Addr) = A' ∧ n = ps.length ∧ c = c' := by simpa using hA
        obtain ⟨b, off, hgb, hbb, hcs⟩ := hso (by omega)
        obtain ⟨rfl, rfl⟩ : g = b ∧ 0 = off := by have := Option.some.inj hgb; exact ⟨congrArg Addr.block this, congrArg Addr.off this⟩
        have c0 := hcs j hjl 0 (by omega)
        simp only [sE, List.getElem?_cons_zero, Nat.add_zero, Nat.zero_add, Nat.mul_one] at c0
        have hqz := HO.out.2.2 _ (List.getElem_mem hjl)
        have HBF := Lib.hid (refBefore_any wr ps[j] p (by omega) (by omega))
        have HE := Lib.hid (fun (h : ordS ps[j] p = -1) i (hi : i < ps.length) (hij : i < j + 1) => (by
          by_cases h2 : i < j
          · exact HA.out i hi h2
          · obtain rfl : i = j := by omega
            exact h : ordS ps[i] p = -1))
        obtain ⟨bb, hbb2⟩ : ∃ bb : Bool, decide (ordS ps[j] p = -1) = bb := ⟨_, rfl⟩
        rw [hbb2] at HBF
        have HBB := Lib.hid hbb2; clear hbb2
        have hqm := List.getElem_mem hjl
        obtain ⟨q, hq⟩ : ∃ q, ps[j] = q := ⟨_, rfl⟩
        rw [hq] at c0 HBF HBB HE hqm
        have HQ := Lib.hid hqm; clear hqm
        have HQE := Lib.hid hq
        clear hcs hso hA hgb hq hqz hbb
        go_wp2_with fail
        refine HBF.out.mono ?_
        rintro e w1 ⟨rfl, hb1⟩
        have c1 : w1.cell? ⟨g, j, none⟩ = some (.string q) := (hb1.cell (p := ⟨g, j, none⟩) (by have := hb.size; show g < _; omega)).trans c0
        have H1 := Lib.hid (hb.trans (hb1.mono hb.size)); clear hb hb1 c0 HBF
        cases bb with
        | true =>
          have HE2 := Lib.hid (HE.out (by simpa using HBB.out)); clear HE
          go_wp2_with fail
          go_roundw
          case rel => exact ⟨j + 1, by omega, by go_num, HE2.out, H1.out⟩
          case measure => simp [intOf]; omega
        | false =>
          clear HE
          by_cases hqp : q = p
          · have te : (q.toList == p.toList) = true := by rw [str_beq]; simpa using hqp
            have HQP := Lib.hid hqp; clear hqp
            go_wp2_with fail
            go_ret
            refine ⟨PutAns.put (qs := ps) ?_ ⟨id, fun x => ⟨.inr, fun h' => h'.elim (fun h' => by rw [h', ← HQP.out]; exact HQ.out) id⟩, by omega, by rw [HL.out]; exact hn1⟩, H1.out⟩
            have h9 := own_kept HO.out.1 H1.out
            unfold OwnS
            rw [HL.out]
            exact h9
          · have te : (q.toList == p.toList) = false := by rw [str_beq]; simpa using hqp
            have HE := Lib.hid (show ∀ (h : j < ps.length), ¬ ordS ps[j] p = -1 ∧ ¬ ps[j] = p from fun h => by
              have := HQE.out
              rw [this]
              exact ⟨by simpa using HBB.out, hqp⟩)
            clear hqp
            obtain ⟨T, hT, hTa, hTb, _⟩ := slice_from (P := Tryz.prog) 24 9 1 Tryz.underlying24 (by kernel_rfl) Tryz.sizeOf9 g 0 n c j (j : Int) rfl hj
            have ho1 := own_kept HO.out.1 H1.out
            have hSL := fun (o : Obj) => ownS_drop (own_kept ho1 ((Below.refl _ w1).alloc (Nat.le_refl _) o)) HL.out j hj T hTa
            have hll : (ps.drop j).length = n - j := by rw [List.length_drop, HL.out]
            obtain ⟨R, hR⟩ : ∃ R, ps.drop j = R := ⟨_, rfl⟩
            rw [hR] at hSL hll
            have HRR := Lib.hid hR; clear hR
            have HSL := Lib.hid hSL
            have HLL := Lib.hid hll
            have HO1 := Lib.hid ho1
            clear hSL hll ho1 hTa hTb
            go_upto_region 7 with (at_builtin; go_loud (refine wpList_app_slv rfl _ _ 24 rfl w1.heap.size 9 (.string ⟨#[]⟩) 1 16 Tryz.underlying24 infoStP rfl (by decide) _ 0 _ rfl (own_emptyB w1 w1.heap.size _ 1 (Nat.le_refl _)) sE sE_len sE_one _ R rfl (HSL.out _) (by rw [HLL.out]; omega) (by decide) (by simp) ?_; intro v2 w2 ho2 hg2; rw [HLL.out, Nat.zero_add] at ho2; obtain ⟨A2, c2, rfl, -, -, -⟩ := SlV_of_any ho2))
            have hb2 : Below w1.heap.size w1 w2 := ((Below.refl _ w1).alloc (Nat.le_refl _) _).grown hg2 (by simp) (fun q hq => by cases hq; exact Nat.le_refl _)
            have hs2 := H1.out.size
            have hs3 := hb2.size
            have hba : Below w2.heap.size w2 (w2.alloc (.cells #[.string p] 9)) := (Below.refl _ w2).alloc (Nat.le_refl _) _
            have hbw := H1.out.trans (hb2.mono hs2)
            have ho2s : w2.ownsRow B 9 1 (.slice (some ⟨g, 0, none⟩) n c) n (ps.flatMap sE) := own_kept HO1.out hb2
            have hsl2 : SlV w2 1 sE (.slice A2 (n - j) c2) R := SlV.of_own (by rw [List.nil_append] at ho2; exact ho2) sE_len (by decide)
            have HOL := Lib.hid (ownS_olds (own_kept ho2s hba) HL.out j hj)
            have H2 := Lib.hid (And.intro hbw (And.intro hba hsl2))
            clear hb2 hg2 ho2 hba hbw ho2s hsl2 HSL HO1
            go_wp2_with (first | (at_builtin; refine wpList_app_fullP rfl _ _ 24 rfl 9 (.string ⟨#[]⟩) 1 16 Tryz.underlying24 infoStP rfl (by decide) _ j _ rfl (fun h => by cases h) HOL.out.1 HOL.out.2 w2.heap.size 1 #[.string p] 9 rfl (Blk.new _ _ _) rfl (by simp [Value.oneCell']) (by omega) (by decide) ?_; intro v4 w4 ho4 hg4; have hb4 : Below w2.heap.size w2 w4 := (H2.out.2.1.trans ((grown_none_belowP hg4).mono H2.out.2.1.size)); have hsl4 := H2.out.2.2.below hb4 (Nat.le_refl _); have hz4 := hb4.size; obtain ⟨A4, c4, rfl, -, -, -⟩ := SlV_of_any ho4; have ho4' := own_wide ho4 (show w2.heap.size ≤ _ by simp); have H4 := Lib.hid (And.intro ho4' (And.intro hb4 hsl4)); clear ho4 hg4 hb4 hsl4 ho4') | (at_builtin; refine wpList_app_slv rfl _ _ 24 rfl w2.heap.size 9 (.string ⟨#[]⟩) 1 16 Tryz.underlying24 infoStP rfl (by decide) (.slice A4 (j + 1) c4) (j + 1) _ rfl H4.out.1 sE sE_len sE_one _ R rfl H4.out.2.2 (by rw [HLL.out]; omega) (by decide) hz4 ?_; intro v5 w5 ho5 hg5; obtain ⟨A5, c5, rfl, -, -, -⟩ := SlV_of_any ho5))
            have hb5 : Below w2.heap.size w4 w5 := (Below.refl _ w4).grown hg5 hz4 (fun q hq => (H4.out.1.lt q hq).1)
            have hbF := H2.out.1.trans ((H4.out.2.1.trans (hb5.mono (Nat.le_refl _))).mono H2.out.1.size)
            have HF := Lib.hid (And.intro (own_wide ho5 (show B ≤ w2.heap.size by omega)) hbF)
            clear ho5 hg5 hb5 hbF
            go_wp2_with fail
            go_ret
            have hlen : (ps.take j ++ p :: R).length = j + 1 + R.length := by rw [List.length_append, List.length_take, List.length_cons, HL.out]; omega
            refine ⟨PutAns.put (qs := ps.take j ++ p :: R) ?_ ⟨fun h => by rw [← HRR.out]; exact ins_rise h (by rw [HL.out]; exact hj) HA.out HE.out, fun x => by rw [← HRR.out]; exact ins_mem ps p j x, by rw [hlen, HLL.out, HL.out]; omega, by rw [hlen]; omega⟩, HF.out.2⟩
            unfold OwnS
            rw [hlen]
            have h9 := HF.out.1
            simpa [sE] using h9
      · have hlt' : ¬ (j : Int) < n := by omega
        have HE := Lib.hid (show ∀ (h : j < ps.length), ¬ ordS ps[j] p = -1 ∧ ¬ ps[j] = p from fun h => by have := HL.out; omega)
        have H1 := Lib.hid hb; clear hb
        generalize wr = w1 at *
        obtain ⟨T, hT, hTa, hTb, _⟩ := slice_from (P := Tryz.prog) 24 9 1 Tryz.underlying24 (by kernel_rfl) Tryz.sizeOf9 g 0 n c j (j : Int) rfl hj
        have ho1 := own_kept HO.out.1 H1.out
        have hSL := fun (o : Obj) => ownS_drop (own_kept ho1 ((Below.refl _ w1).alloc (Nat.le_refl _) o)) HL.out j hj T hTa
        have hll : (ps.drop j).length = n - j := by rw [List.length_drop, HL.out]
        obtain ⟨R, hR⟩ : ∃ R, ps.drop j = R := ⟨_, rfl⟩
        rw [hR] at hSL hll
        have HRR := Lib.hid hR; clear hR
        have HSL := Lib.hid hSL
        have HLL := Lib.hid hll
        have HO1 := Lib.hid ho1
        clear hSL hll ho1 hTa hTb
        go_upto_region 7 with (at_builtin; go_loud (refine wpList_app_slv rfl _ _ 24 rfl w1.heap.size 9 (.string ⟨#[]⟩) 1 16 Tryz.underlying24 infoStP rfl (by decide) _ 0 _ rfl (own_emptyB w1 w1.heap.size _ 1 (Nat.le_refl _)) sE sE_len sE_one _ R rfl (HSL.out _) (by rw [HLL.out]; omega) (by decide) (by simp) ?_; intro v2 w2 ho2 hg2; rw [HLL.out, Nat.zero_add] at ho2; obtain ⟨A2, c2, rfl, -, -, -⟩ := SlV_of_any ho2))
        have hb2 : Below w1.heap.size w1 w2 := ((Below.refl _ w1).alloc (Nat.le_refl _) _).grown hg2 (by simp) (fun q hq => by cases hq; exact Nat.le_refl _)
        have hs2 := H1.out.size
        have hs3 := hb2.size
        have hba : Below w2.heap.size w2 (w2.alloc (.cells #[.string p] 9)) := (Below.refl _ w2).alloc (Nat.le_refl _) _
        have hbw := H1.out.trans (hb2.mono hs2)
        have ho2s : w2.ownsRow B 9 1 (.slice (some ⟨g, 0, none⟩) n c) n (ps.flatMap sE) := own_kept HO1.out hb2
        have hsl2 : SlV w2 1 sE (.slice A2 (n - j) c2) R := SlV.of_own (by rw [List.nil_append] at ho2; exact ho2) sE_len (by decide)
        have HOL := Lib.hid (ownS_olds (own_kept ho2s hba) HL.out j hj)
        have H2 := Lib.hid (And.intro hbw (And.intro hba hsl2))
        clear hb2 hg2 ho2 hba hbw ho2s hsl2 HSL HO1
        go_wp2_with (first | (at_builtin; refine wpList_app_fullP rfl _ _ 24 rfl 9 (.string ⟨#[]⟩) 1 16 Tryz.underlying24 infoStP rfl (by decide) _ j _ rfl (fun h => by cases h) HOL.out.1 HOL.out.2 w2.heap.size 1 #[.string p] 9 rfl (Blk.new _ _ _) rfl (by simp [Value.oneCell']) (by omega) (by decide) ?_; intro v4 w4 ho4 hg4; have hb4 : Below w2.heap.size w2 w4 := (H2.out.2.1.trans ((grown_none_belowP hg4).mono H2.out.2.1.size)); have hsl4 := H2.out.2.2.below hb4 (Nat.le_refl _); have hz4 := hb4.size; obtain ⟨A4, c4, rfl, -, -, -⟩ := SlV_of_any ho4; have ho4' := own_wide ho4 (show w2.heap.size ≤ _ by simp); have H4 := Lib.hid (And.intro ho4' (And.intro hb4 hsl4)); clear ho4 hg4 hb4 hsl4 ho4') | (at_builtin; refine wpList_app_slv rfl _ _ 24 rfl w2.heap.size 9 (.string ⟨#[]⟩) 1 16 Tryz.underlying24 infoStP rfl (by decide) (.slice A4 (j + 1) c4) (j + 1) _ rfl H4.out.1 sE sE_len sE_one _ R rfl H4.out.2.2 (by rw [HLL.out]; omega) (by decide) hz4 ?_; intro v5 w5 ho5 hg5; obtain ⟨A5, c5, rfl, -, -, -⟩ := SlV_of_any ho5))
        have hb5 : Below w2.heap.size w4 w5 := (Below.refl _ w4).grown hg5 hz4 (fun q hq => (H4.out.1.lt q hq).1)
        have hbF := H2.out.1.trans ((H4.out.2.1.trans (hb5.mono (Nat.le_refl _))).mono H2.out.1.size)
        have HF := Lib.hid (And.intro (own_wide ho5 (show B ≤ w2.heap.size by omega)) hbF)
        clear ho5 hg5 hb5 hbF
        go_wp2_with fail
        go_ret
        have hlen : (ps.take j ++ p :: R).length = j + 1 + R.length := by rw [List.length_append, List.length_take, List.length_cons, HL.out]; omega
        refine ⟨PutAns.put (qs := ps.take j ++ p :: R) ?_ ⟨fun h => by rw [← HRR.out]; exact ins_rise h (by rw [HL.out]; exact hj) HA.out HE.out, fun x => by rw [← HRR.out]; exact ins_mem ps p j x, by rw [hlen, HLL.out, HL.out]; omega, by rw [hlen]; omega⟩, HF.out.2⟩
        unfold OwnS
        rw [hlen]
        have h9 := HF.out.1
        simpa [sE] using h9
end Go.Proofs.YtmpgmgjokliceaaGreatDoor
/- The reference's Tops of layer 32. -/
set_option linter.unusedVariables false
set_option linter.unusedSimpArgs false
namespace Go.Proofs.YtmpgmgjokliceaaGreatDoor
open Go Go.RowKit
open Sw
set_option maxRecDepth 100000 in
set_option maxHeartbeats 4000000 in
theorem tops32_any (w : World) (v : Value) (l : List ByteArray) (h : SlV w 1 sE v l) (hl : l.length ≤ 1000) (hz : ∀ p ∈ l, p.size ≤ 90000) :
    Calls Tryz.prog 41 #[v] w fun e w' => ∃ u, e = .returned u ∧ w'.ownsRow w.heap.size 9 1 u (topsN l).length ((topsN l).flatMap sE) ∧ Below w.heap.size w w' := by
  unfold topsN
  obtain ⟨K, hK⟩ : ∃ K, topKeep l = K := ⟨_, rfl⟩
  have hKe : ∀ p, K p = (rightL p.data.toList && !l.any fun t => inS (upsS p) t && rightL t.data.toList) := fun p => by rw [← hK]; rfl
  rw [hK]
  have HK := Lib.hid hKe
  clear hK hKe
  obtain ⟨A, c, rfl, hc1, hc2, hsl⟩ := h
  obtain ⟨n, hn⟩ : ∃ n, l.length = n := ⟨_, rfl⟩
  rw [hn] at hc1 hl ⊢
  unfold maxLen at hc2
  have HL := Lib.hid hn; clear hn
  have HS := Lib.hid hsl; clear hsl
  have HZ := Lib.hid hz; clear hz
  go_enter Tryz.func41, Tryz.ntmps41
  go_wp2_with fail
  go_loopw [3, 11] (fun ov iv wr => ∃ i : Nat, i ≤ n ∧ iv = .int .i64 i ∧ wr.ownsRow w.heap.size 9 1 ov ((l.take i).filter K).length (((l.take i).filter K).flatMap sE) ∧ Below w.heap.size w wr) (fun _ iv _ => n - (intOf iv).toNat)
  case atStart => exact ⟨0, Nat.zero_le _, rfl, World.ownsRow_nil _ _ _ _, Below.refl _ _⟩
  case round =>
    obtain ⟨i, hi, rfl, ho, hb⟩ := hrel
    by_cases hlt : i < n
    · have hiL : i < l.length := by have := HL.out; omega
      have htk : (l.take (i + 1)).filter K = (l.take i).filter K ++ [l[i]].filter K := by rw [List.take_succ_eq_append_getElem hiL, List.filter_append]
      have hll : ((l.take i).filter K).length ≤ 1000 := Nat.le_trans (List.length_filter_le _ _) (by rw [List.length_take]; omega)
      obtain ⟨b, off, rfl, hbb, hcs⟩ := (HS.out.below hb (Nat.le_refl _)) (by omega)
      have c0 := hcs i hiL 0 (by omega)
      simp [sE] at c0
      clear hcs
      have hi1 : (i : Int) < n := by omega
      have hpz := HZ.out _ (List.getElem_mem hiL)
      obtain ⟨p, hp⟩ : ∃ x, l[i] = x := ⟨_, rfl⟩
      simp only [hp] at c0 htk hpz
      clear hp
      obtain ⟨L, hLL⟩ : ∃ L, (l.take i).filter K = L := ⟨_, rfl⟩
      simp only [hLL] at htk hll ho ⊢
      obtain ⟨m, hm⟩ : ∃ m, L.length = m := ⟨_, rfl⟩
      rw [hm] at hll ho
      obtain ⟨A3, c3, rfl, -, -, -⟩ := SlV_of_any ho
      have HTK := Lib.hid (And.intro htk hm)
      have HO := Lib.hid (And.intro ho hb)
      have HRP := Lib.hid (refRight_any wr p (by omega))
      have HKP := Lib.hid (HK.out p)
      obtain ⟨f, hf⟩ : ∃ f : ByteArray → Bool, (fun t => inS (upsS p) t && rightL t.data.toList) = f := ⟨_, rfl⟩
      rw [hf] at HKP
      have HFE := Lib.hid (fun t => by rw [← hf] : ∀ t, f t = (inS (upsS p) t && rightL t.data.toList))
      have HUP := Lib.hid (fun W t => ref16Under_any W t p hpz)
      clear htk hm ho hb hLL hf hpz
      go_wp2_with fail
      refine HRP.out.mono ?_
      rintro e w2 ⟨rfl, hb2⟩
      have HB2 := Lib.hid hb2
      obtain ⟨rp, hrp⟩ : ∃ r, rightL p.data.toList = r := ⟨_, rfl⟩
      rw [hrp] at HKP
      rw [hrp]
      clear hb2 HRP hrp
      go_wp2_with fail
      generalize wr = wo at *
      go_loopw [6, 19] (fun fv jv wx => ∃ j : Nat, j ≤ n ∧ jv = .int .i64 j ∧ fv = .bool (rp && !((l.take j).any f)) ∧ Below wo.heap.size wo wx) (fun _ jv _ => n - (intOf jv).toNat)
      case atStart => exact ⟨0, Nat.zero_le _, rfl, by simp, HB2.out⟩
      case round =>
        obtain ⟨j, hj, rfl, rfl, hbx⟩ := hrel
        have hbw := HO.out.2.trans (hbx.mono HO.out.2.size)
        by_cases hjt : j < n
        · have hjL : j < l.length := by have := HL.out; omega
          have d0 := ((HS.out.below hbw (Nat.le_refl _)) (by omega))
          obtain ⟨b', off', hA, hbb', hcs⟩ := d0
          have d0 := hcs j hjL 0 (by omega)
          obtain ⟨rfl, rfl⟩ : b = b' ∧ off = off' := by cases hA; exact ⟨rfl, rfl⟩
          simp [sE] at d0
          clear hcs hA
          have hj1 : (j : Int) < n := by omega
          have hat := any_take f l j hjL
          have hfx := HFE.out l[j]
          have htz := HZ.out _ (List.getElem_mem hjL)
          obtain ⟨t, ht⟩ : ∃ x, l[j] = x := ⟨_, rfl⟩
          simp only [ht] at d0 hat hfx htz
          obtain ⟨B, hB⟩ : ∃ B, (l.take j).any f = B := ⟨_, rfl⟩
          rw [hB] at hat ⊢
          have HRT := Lib.hid (refRight_any wr t (by omega))
          obtain ⟨rt, hrt⟩ : ∃ r, rightL t.data.toList = r := ⟨_, rfl⟩
          rw [hrt] at HRT hfx
          have HX := Lib.hid (And.intro hat hfx)
          have HBX := Lib.hid hbx
          clear hat hfx hbx htz ht hB hrt
          go_wp2_with fail
          refine HRT.out.mono ?_
          rintro e w4 ⟨rfl, hb4⟩
          have HB4 := Lib.hid (HBX.out.trans (hb4.mono HBX.out.size))
          clear hb4 HRT
          cases rt with
          | false =>
            have HFX := Lib.hid (show (l.take (j + 1)).any f = B by rw [HX.out.1, HX.out.2]; simp)
            go_wp2_with fail
            go_roundw
            case rel => exact ⟨j + 1, by omega, by go_num, by rw [HFX.out], HB4.out⟩
            case measure => simp [intOf]; omega
          | true =>
            have HU1 := Lib.hid (HUP.out w4 t)
            obtain ⟨U, hU⟩ : ∃ U, inS (upsS p) t = U := ⟨_, rfl⟩
            rw [hU] at HU1
            have HFX := Lib.hid (show (l.take (j + 1)).any f = (B || U) by rw [HX.out.1, HX.out.2, hU]; simp)
            clear hU
            go_wp2_with fail
            refine HU1.out.mono ?_
            rintro e w5 ⟨rfl, hb5⟩
            have HB5 := Lib.hid (HB4.out.trans (hb5.mono HB4.out.size))
            clear hb5 HU1
            cases U with
            | false =>
              go_wp2_with fail
              go_roundw
              case rel => exact ⟨j + 1, by omega, by go_num, by rw [HFX.out, Bool.or_false], HB5.out⟩
              case measure => simp [intOf]; omega
            | true =>
              go_wp2_with fail
              go_roundw
              case rel => exact ⟨j + 1, by omega, by go_num, by rw [HFX.out]; simp, HB5.out⟩
              case measure => simp [intOf]; omega
        · obtain rfl : j = n := by omega
          have htj : l.take j = l := List.take_of_length_le (by have := HL.out; omega)
          rw [htj, ← HKP.out]
          clear htj
          obtain ⟨kp, hkp⟩ : ∃ k, K p = k := ⟨_, rfl⟩
          rw [hkp]
          have HKK := Lib.hid hkp
          have HW := Lib.hid (And.intro hbw (own_kept HO.out.1 hbx))
          have hbz : w.heap.size ≤ wr.heap.size := hbw.size
          clear hbx hbw hkp
          cases kp with
          | false =>
            have hf0 : [p].filter K = [] := by simp [HKK.out]
            have HF := Lib.hid (show wr.ownsRow w.heap.size 9 1 (.slice A3 m c3) ((l.take (i + 1)).filter K).length (((l.take (i + 1)).filter K).flatMap sE) by
              rw [HTK.out.1, hf0, List.append_nil, HTK.out.2]; exact HW.out.2)
            clear hf0
            go_wp2_with fail
            go_roundw
            case rel => exact ⟨i + 1, by omega, by go_num, HF.out, HW.out.1⟩
            case measure => simp [intOf]; omega
          | true =>
            have hf0 : [p].filter K = [p] := by simp [HKK.out]
            have HF0 := Lib.hid hf0; clear hf0
            go_wp2_with (at_builtin; go_loud (refine wpList_app rfl _ _ 24 rfl w.heap.size 9 (.string ⟨#[]⟩) 1 16 Tryz.underlying24 infoStP rfl (by decide) (.slice A3 m c3) m _ rfl (HW.out.2.alloc _) wr.heap.size 1 #[.string p] 9 rfl (Blk.new _ _ _) rfl (by simp [Value.oneCell']) (by omega) (by decide) (by simp; omega) _ rfl ?_; intro g cap w5 hown1 hgrow1 hat hlt1; have HA := Lib.hid (And.intro hown1 hgrow1)))
            go_roundw
            case rel => exact ⟨i + 1, by omega, by go_num, by rw [HTK.out.1, HF0.out, List.length_append, HTK.out.2, List.flatMap_append]; exact HA.out.1, (HW.out.1.trans (((Below.refl _ _).alloc (Nat.le_refl _) _).mono hbz)).grown HA.out.2 (by simp; omega) (fun k hk => (HW.out.2.lt k hk).1)⟩
            case measure => simp [intOf]; omega
    · obtain rfl : i = n := by omega
      have htk : l.take i = l := List.take_of_length_le (by have := HL.out; omega)
      rw [htk] at ho
      clear htk
      obtain ⟨A3, c3, rfl, -, -, -⟩ := SlV_of_any ho
      have HF := Lib.hid (And.intro ho hb); clear ho hb
      go_wp2_with fail
      go_ret
      exact ⟨_, rfl, HF.out.1, HF.out.2⟩
end Go.Proofs.YtmpgmgjokliceaaGreatDoor
