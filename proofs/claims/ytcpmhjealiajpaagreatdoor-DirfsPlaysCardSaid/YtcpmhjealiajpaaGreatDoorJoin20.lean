/- Several texts, joined for the limit of sixty files; each one opens with its own comment. -/
import Derived.Test.YtcpmhjealiajpaaGreatDoorJoin19
/- The reference's live directory: Rename. -/
set_option linter.unusedVariables false
set_option linter.unusedSimpArgs false
namespace Sw
open Go.Proofs.YtcpmhjealiajpaaGreatDoor (awayT undT)
theorem ren_step (fr tt : ByteArray) (l : List NE) (i : Nat) (h : i < l.length) : putL ordS ((l.take (i + 1)).map (mvE fr tt)) = putN ordS (mvS fr tt l[i].1) l[i].2 (putL ordS ((l.take i).map (mvE fr tt))) := by
  rw [List.take_succ_eq_append_getElem h, List.map_append]
  exact putL_snoc _ _
theorem rowUp (l : List NE) : Up ordS (putL ordS l) := by
  have key : ∀ (l m : List NE), Up ordS m → Up ordS (l.foldl (fun m x => putN ordS x.1 x.2 m) m) := fun l => by
    induction l with
    | nil => exact fun m h => h
    | cons a l ih => exact fun m h => ih _ (put_up ordS_ord _ _ _ h)
  exact key l [] List.Pairwise.nil
theorem putL_sub {e : NE} : ∀ l : List NE, e ∈ putL ordS l → e ∈ l := fun l => by
  have key : ∀ (l m : List NE), e ∈ l.foldl (fun m x => putN ordS x.1 x.2 m) m → e ∈ l ∨ e ∈ m := fun l => by
    induction l with
    | nil => exact fun m h => .inr h
    | cons a l ih =>
      intro m h
      rcases ih _ h with h | h
      · exact .inl (List.mem_cons_of_mem _ h)
      · rcases put_mem a.1 a.2 _ e h with h | h
        · exact .inl (by rw [h]; exact List.mem_cons_self ..)
        · exact .inr h
  intro h
  rcases key l [] h with h | h
  · exact h
  · cases h
end Sw
namespace Go.Proofs.YtcpmhjealiajpaaGreatDoor
open Go Go.RowKit
open Sw
set_option maxRecDepth 100000 in
set_option maxHeartbeats 16000000 in
theorem rrename_any (w : World) (base br : Nat) (lv : Value) (s : DS) (k : Nat) (fr tt : ByteArray) (h : RefD w base br lv s) (hB : base ≤ w.heap.size) (hok : s.Ok k) (hk : k ≤ 1000) (hr : RowOk 400 s.xs) (hf : fr.size ≤ 90000) (ht : tt.size ≤ 1000) :
    Calls Tryz.prog 36 #[.pointer (some ⟨br, 0, none⟩), .string fr, .string tt] w fun e w' => e = .returned (.int .i64 (stepD s (renW s.xs fr tt) (renT s.xs fr tt)).1) ∧ (∃ A2 n2 c2, RefD w' base br (.slice A2 n2 c2) (stepD s (renW s.xs fr tt) (renT s.xs fr tt)).2) ∧ w.grownBy w' (some br) := by
  obtain ⟨room, fuse, ops, off, xs⟩ := s
  simp only at hr hok ⊢
  obtain ⟨A, c, rfl, hc1, hc2, _⟩ := SlV_of_any h.row
  obtain ⟨A', c', ex, -, -, hsl⟩ := h.row.slv
  obtain ⟨rfl, rfl⟩ : A = A' ∧ c = c' := by injection ex with a b c; exact ⟨a, c⟩
  obtain ⟨n, hn⟩ : ∃ n, xs.length = n := ⟨_, rfl⟩
  simp only [hn] at h hc1
  clear ex
  unfold maxLen at hc2
  have hn400 : n ≤ 400 := by have := hr.len; rw [hn] at this; exact this
  have HPT := Lib.hid hr.size
  have hpz : (parentS tt).size ≤ 90000 := by
    rcases parent_last tt with ⟨_, h⟩ | ⟨h, he, _⟩
    · rw [h]; decide
    · rw [← he, List.getLast_eq_getElem]; have := (ups_step tt _ (by have := List.length_pos_iff.2 h; omega : (upsS tt).length - 1 < (upsS tt).length)).2.1; omega
  have HRI := Lib.hid (fun W => refRight_any W tt (by omega))
  have HG := Lib.hid (fun W q (hb : Below w.heap.size w W) => (show Calls Tryz.prog 16 #[.slice A n c, .string q] W fun e w' => e = .returned (.agg (getT xs q).c) ∧ Below W.heap.size W w' from by
    rw [← refGetT_eq xs q hr.ti.up]; exact ref16Get_any W _ xs q (h.row.below hb).slv))
  have HU := Lib.hid (fun W => ref16Under_any W fr tt (by omega))
  have HUP := Lib.hid (fun W => refUps_any W tt (by omega))
  have HPL := Lib.hid (parent_last tt)
  have hfld := nodeField0
  have hse0 := str_eq fr tt
  have HL := Lib.hid (And.intro hn (And.intro hsl hr))
  have HH := Lib.hid (And.intro h (And.intro h.box hok))
  have c0 := h.box.cell 0
  simp at c0
  clear hn hsl hr h hok
  have HDNZ := Lib.hid (fun W (hb : Below w.heap.size w W) (why' : Int) (hw : ¬ why' = 0) (ys : List NE) => rdone_any W base br A none n 0 c 0 ⟨room, fuse, ops, off, xs⟩ k why' ys (HH.out.1.below hb) HH.out.2.2 hk (fun h => absurd h hw))
  have HTG := Lib.hid (show targetT xs fr tt = (if rightL tt.data.toList = false then 5 else if (getT xs fr).kind = 0 then 7 else if fr = tt ∨ inS (upsS tt) fr = true then 1 else if ¬ (getT xs tt).kind = 0 then 6 else if parentS tt = ⟨#[]⟩ then 0 else if (getT xs (parentS tt)).kind = 0 then 7 else if (getT xs (parentS tt)).kind = 1 then 8 else 0) from rfl)
  have HRW := Lib.hid (show ¬ targetT xs fr tt = 0 → renW xs fr tt = targetT xs fr tt from fun h => by unfold renW; rw [if_pos h])
  have HGF := Lib.hid (fun W (hb : Below w.heap.size w W) => HG.out W fr hb)
  have HGT := Lib.hid (fun W (hb : Below w.heap.size w W) => HG.out W tt hb)
  have HGP := Lib.hid (fun W (hb : Below w.heap.size w W) => HG.out W (parentS tt) hb)
  clear HG
  obtain ⟨D, hD⟩ : ∃ D, decide (fr = tt) = D := ⟨_, rfl⟩
  have HDD := Lib.hid (show fr = tt ↔ D = true from by rw [← hD, decide_eq_true_eq])
  rw [hD] at hse0
  clear hD
  obtain ⟨tg, htg⟩ : ∃ tg, targetT xs fr tt = tg := ⟨_, rfl⟩
  rw [htg] at HTG HRW
  have HT0 := Lib.hid htg; clear htg
  generalize rightL tt.data.toList = rb at *
  generalize inS (upsS tt) fr = bu at *
  generalize getT xs fr = gf at *
  generalize getT xs tt = gt at *
  generalize getT xs (parentS tt) = gp at *
  obtain ⟨pu, hpu⟩ : ∃ pu, parentS tt = pu := ⟨_, rfl⟩
  rw [hpu] at HTG HGP HPL hpz
  clear hpu
  obtain ⟨fk, fm, ft, fd⟩ := gf
  obtain ⟨tk, tm', tt', td⟩ := gt
  obtain ⟨pk, pm, pt, pd⟩ := gp
  simp only [Nd.c] at HGF HGT HGP HTG
  go_enter Tryz.func36, Tryz.ntmps36
  go_wp2_with fail
  refine (HRI.out _).mono ?_
  rintro e w1 ⟨rfl, hb1⟩
  have HB1 := Lib.hid hb1; clear hb1 c0
  cases rb with
  | false =>
    have HE := Lib.hid (show renW xs fr tt = 5 from by have h : tg = 5 := by rw [HTG.out]; rfl
                                                       rw [HRW.out (by rw [h]; decide), h])
    have HD := Lib.hid (HDNZ.out _ HB1.out 5 (by decide) (renT xs fr tt))
    go_wp2_with fail
    refine HD.out.mono ?_
    rintro e w9 ⟨rfl, ⟨A4, n4, c4, hd4⟩, hg4⟩
    have HZ := Lib.hid (And.intro hd4 (grown_trans (grown_below HB1.out : w.grownBy w1 (some br)) hg4)); clear hd4 hg4 HD
    go_wp2_with fail
    go_ret
    rw [HE.out]
    exact ⟨rfl, ⟨A4, n4, c4, HZ.out.1⟩, HZ.out.2⟩
  | true =>
    have HT1 := Lib.hid (show tg = (if fk = 0 then 7 else if fr = tt ∨ bu = true then 1 else if ¬ tk = 0 then 6 else if pu = ⟨#[]⟩ then 0 else if pk = 0 then 7 else if pk = 1 then 8 else 0) from by rw [HTG.out, if_neg (by decide)])
    have c0 := (HH.out.2.1.below HB1.out HH.out.2.1.lt).cell 0
    simp at c0
    go_wp2_with fail
    refine (HGF.out _ HB1.out).mono ?_
    rintro e w2 ⟨rfl, hb2⟩
    have HB2 := Lib.hid (HB1.out.trans (hb2.mono HB1.out.size)); clear hb2 c0
    by_cases hfk : fk = 0
    · have hfe : (fk == 0) = true := by rw [hfk]; rfl
      have HE := Lib.hid (show renW xs fr tt = 7 from by have h : tg = 7 := by rw [HT1.out, if_pos hfk]
                                                         rw [HRW.out (by rw [h]; decide), h])
      clear hfk
      have HD := Lib.hid (HDNZ.out _ HB2.out 7 (by decide) (renT xs fr tt))
      go_wp2_with fail
      refine HD.out.mono ?_
      rintro e w9 ⟨rfl, ⟨A4, n4, c4, hd4⟩, hg4⟩
      have HZ := Lib.hid (And.intro hd4 (grown_trans (grown_below HB2.out : w.grownBy w2 (some br)) hg4)); clear hd4 hg4 HD
      go_wp2_with fail
      go_ret
      rw [HE.out]
      exact ⟨rfl, ⟨A4, n4, c4, HZ.out.1⟩, HZ.out.2⟩
    · have hfe : (fk == 0) = false := by rw [beq_eq_false_iff_ne]; exact hfk
      have HT2 := Lib.hid (show tg = (if fr = tt ∨ bu = true then 1 else if ¬ tk = 0 then 6 else if pu = ⟨#[]⟩ then 0 else if pk = 0 then 7 else if pk = 1 then 8 else 0) from by rw [HT1.out, if_neg hfk])
      clear hfk
      cases D with
      | true =>
        have HE := Lib.hid (show renW xs fr tt = 1 from by have h : tg = 1 := by rw [HT2.out, if_pos (.inl (HDD.out.2 rfl))]
                                                           rw [HRW.out (by rw [h]; decide), h])
        have HD := Lib.hid (HDNZ.out _ HB2.out 1 (by decide) (renT xs fr tt))
        go_wp2_with fail
        refine HD.out.mono ?_
        rintro e w9 ⟨rfl, ⟨A4, n4, c4, hd4⟩, hg4⟩
        have HZ := Lib.hid (And.intro hd4 (grown_trans (grown_below HB2.out : w.grownBy w2 (some br)) hg4)); clear hd4 hg4 HD
        go_wp2_with fail
        go_ret
        rw [HE.out]
        exact ⟨rfl, ⟨A4, n4, c4, HZ.out.1⟩, HZ.out.2⟩
      | false =>
        go_wp2_with fail
        refine (HU.out w2).mono ?_
        rintro e w3 ⟨rfl, hb3⟩
        have HB3 := Lib.hid (HB2.out.trans (hb3.mono HB2.out.size)); clear hb3
        cases bu with
        | true =>
          have HE := Lib.hid (show renW xs fr tt = 1 from by have h : tg = 1 := by rw [HT2.out, if_pos (.inr rfl)]
                                                             rw [HRW.out (by rw [h]; decide), h])
          have HD := Lib.hid (HDNZ.out _ HB3.out 1 (by decide) (renT xs fr tt))
          go_wp2_with fail
          refine HD.out.mono ?_
          rintro e w9 ⟨rfl, ⟨A4, n4, c4, hd4⟩, hg4⟩
          have HZ := Lib.hid (And.intro hd4 (grown_trans (grown_below HB3.out : w.grownBy w3 (some br)) hg4)); clear hd4 hg4 HD
          go_wp2_with fail
          go_ret
          rw [HE.out]
          exact ⟨rfl, ⟨A4, n4, c4, HZ.out.1⟩, HZ.out.2⟩
        | false =>
          have HT3 := Lib.hid (show tg = (if ¬ tk = 0 then 6 else if pu = ⟨#[]⟩ then 0 else if pk = 0 then 7 else if pk = 1 then 8 else 0) from by rw [HT2.out, if_neg (fun h => h.elim (fun e => by have := HDD.out.1 e; cases this) (fun e => by cases e))])
          have c0 := (HH.out.2.1.below HB3.out HH.out.2.1.lt).cell 0
          simp at c0
          go_wp2_with fail
          refine (HGT.out _ HB3.out).mono ?_
          rintro e w4 ⟨rfl, hb4⟩
          have HB4 := Lib.hid (HB3.out.trans (hb4.mono HB3.out.size)); clear hb4 c0
          by_cases htk : tk = 0
          · have hte : (tk != 0) = false := by rw [htk]; rfl
            have HT4 := Lib.hid (show tg = (if pu = ⟨#[]⟩ then 0 else if pk = 0 then 7 else if pk = 1 then 8 else 0) from by rw [HT3.out, if_neg (by simpa using htk)]); clear htk
            go_wp2_with fail
            refine (HUP.out w4).mono ?_
            rintro e w5 ⟨uv, rfl, us, hb5⟩
            have HB5 := Lib.hid (HB4.out.trans (hb5.mono HB4.out.size)); clear hb5
            obtain ⟨Au, cu, rfl, huc1, huc2, hus⟩ := us
            obtain ⟨U, hU⟩ : ∃ U, upsS tt = U := ⟨_, rfl⟩
            rw [hU] at huc1 hus HPL
            rw [hU]
            clear hU
            unfold maxLen at huc2
            have HSL := Lib.hid hus; clear hus
            rcases HPL.out with ⟨rfl, hps⟩ | ⟨hne, hla, hps⟩
            · have hz0 : tg = 0 := by rw [HT4.out, if_pos hps]
              simp only [List.length_nil] at huc1 ⊢
              have HE0 := Lib.hid (show tg = 0 from hz0)
              have HB6 := Lib.hid HB5.out
              have c0 := (HH.out.2.1.below HB6.out HH.out.2.1.lt).cell 0
              simp at c0
              go_wp2_with fail
              clear c0
              go_loopw [9, 78] (fun ov iv wr => ∃ i : Nat, i ≤ n ∧ iv = .int .i64 i ∧ OwnIt wr w.heap.size ov (putL ordS ((xs.take i).map (mvE fr tt))) ∧ (∀ k (hk : k < xs.length), k < i → rightL (mvS fr tt xs[k].1).data.toList = true) ∧ Below w.heap.size w wr) (fun _ iv _ => n - (intOf iv).toNat)
              case atStart => exact ⟨0, Nat.zero_le _, rfl, World.ownsRow_nil _ _ _ _, fun k _ h => absurd h (Nat.not_lt_zero _), HB6.out⟩
              case round =>
                obtain ⟨i, hi, rfl, ho, hall, hb⟩ := hrel
                have HA := Lib.hid hall; clear hall
                have hoo := ho
                obtain ⟨Ay, cy, rfl, hyc1, hyc2, _⟩ := SlV_of_any ho
                have hyl : (putL ordS ((xs.take i).map (mvE fr tt))).length ≤ 400 := Nat.le_trans (putL_length _) (by rw [List.length_map, List.length_take]; omega)
                obtain ⟨my, hmy⟩ : ∃ my, (putL ordS ((xs.take i).map (mvE fr tt))).length = my := ⟨_, rfl⟩
                rw [hmy] at hyc1 hoo
                rw [hmy]
                by_cases hlt : i < n
                · have hiL : i < xs.length := by rw [HL.out.1]; exact hlt
                  obtain ⟨b, off2, rfl, hbb, hcs⟩ := (HL.out.2.1.below hb (Nat.le_refl _)) (by omega)
                  have c0 := hcs i hiL 0 (by omega)
                  have c1 := hcs i hiL 1 (by omega)
                  have c2 := hcs i hiL 2 (by omega)
                  have c3' := hcs i hiL 3 (by omega)
                  have c4 := hcs i hiL 4 (by omega)
                  simp only [eCSN, List.getElem?_cons_succ, List.getElem?_cons_zero, Nat.add_zero] at c0 c1 c2 c3' c4
                  clear hcs
                  have hi1 : (i : Int) < n := by omega
                  have hqs := HPT.out xs[i] (List.getElem_mem hiL)
                  have hst := ren_step fr tt xs i hiL
                  have hqr := HL.out.2.2.ti.paths xs[i] (List.getElem_mem hiL)
                  have hmem : ∀ e ∈ putL ordS ((xs.take i).map (mvE fr tt)), e.1.size ≤ 90000 := fun e he => by
                    obtain ⟨a, ha, rfl⟩ := List.mem_map.1 (putL_sub _ he)
                    obtain ⟨j, hj, rfl⟩ := List.mem_iff_getElem.1 ha
                    have hj2 : j < i := by rw [List.length_take] at hj; omega
                    have hj3 : j < xs.length := by omega
                    have h1 := HA.out j hj3 hj2
                    rw [List.getElem_take]
                    have hl2 := (rightL_len h1).1
                    have hz : (mvS fr tt xs[j].1).data.toList.length = (mvS fr tt xs[j].1).size := by simp
                    show (mvS fr tt xs[j].1).size ≤ 90000
                    omega
                  have hnext : rightL (mvS fr tt xs[i].1).data.toList = true → ∀ k (hk : k < xs.length), k < i + 1 → rightL (mvS fr tt xs[k].1).data.toList = true := fun h k hk hki => by
                    by_cases e : k = i
                    · subst e; exact h
                    · exact HA.out k hk (by omega)
                  have hno : (xs[i].1 = fr ∨ fr ∈ upsS xs[i].1) → ¬ rightL (mvS fr tt xs[i].1).data.toList = true → renW xs fr tt = 4 := fun ha hn => by
                    have hna : ¬ ((undT fr xs).all fun e => rightL (mvS fr tt e.1).data.toList) = true := fun h => hn (List.all_eq_true.1 h _ ((und_iff fr xs _).2 ⟨List.getElem_mem hiL, ha⟩))
                    unfold renW
                    rw [if_neg (by rw [HT0.out, HE0.out]; simp), if_neg hna]
                  obtain ⟨⟨q, kd, md, tm, dt⟩, hx⟩ : ∃ x, xs[i] = x := ⟨_, rfl⟩
                  simp only [hx] at c0 c1 c2 c3' c4 hqs hst hqr hnext hno
                  clear hx
                  have HM := Lib.hid (And.intro (show (putL ordS ((xs.take i).map (mvE fr tt))).length ≤ 1000 from by omega) (And.intro hmem (And.intro hqr (And.intro hst (And.intro hmy (And.intro hnext hno))))))
                  have hse := str_eq q fr
                  have HAF := Lib.hid (hb.trans (((Below.refl wr.heap.size wr).alloc (Nat.le_refl _) (.cells #[.string q, .int .i64 kd, .int .i64 md, .int .u32 tm, .string dt] 32)).mono hb.size))
                  have HR4 := Lib.hid (And.intro (OwnIt.below hoo ((Below.refl wr.heap.size wr).alloc (Nat.le_refl _) (.cells #[.string q, .int .i64 kd, .int .i64 md, .int .u32 tm, .string dt] 32))) (Blk.new wr 32 #[.string q, .int .i64 kd, .int .i64 md, .int .u32 tm, .string dt]))
                  have HUQ := Lib.hid (fun W => ref16Under_any W fr q (by omega))
                  clear hst hqr hnext hno hmem hb ho hoo hmy
                  by_cases hqF : q = fr
                  · rw [decide_eq_true hqF] at hse
                    have HAT := Lib.hid (show q = fr ∨ fr ∈ upsS q from .inl hqF)
                    clear hqF
                    have HMV := Lib.hid (mv_at (tt := tt) HAT.out)
                    have hmv := HMV.out
                    have hxz := at_size HAT.out
                    have hes : (q.extract fr.size q.size).size ≤ 90000 := by rw [ByteArray.size_extract]; omega
                    have hms : (tt ++ q.extract fr.size q.size).size ≤ 91000 := by rw [ByteArray.size_append]; omega
                    have HRS := Lib.hid (fun W => refRight_any W (tt ++ q.extract fr.size q.size) (by omega))
                    have HMSZ := Lib.hid (And.intro hms (show rightL (tt ++ q.extract fr.size q.size).data.toList = true → (tt ++ q.extract fr.size q.size).size ≤ 90000 from fun h => by
                      have hl2 := (rightL_len h).1
                      have hz : (tt ++ q.extract fr.size q.size).data.toList.length = (tt ++ q.extract fr.size q.size).size := by simp
                      omega))
                    clear hmv
                    go_wp2_with fail
                    refine (HRS.out _).mono ?_
                    rintro e w5 ⟨rfl, hb5⟩
                    have HB5 := Lib.hid (HAF.out.trans (hb5.mono HAF.out.size))
                    have hN5 := HR4.out.2.below hb5 HR4.out.2.lt
                    have HR5 := Lib.hid (And.intro (OwnIt.below HR4.out.1 hb5) hN5)
                    have z0 := hN5.cell 0
                    have z1 := hN5.cell 1
                    have z2 := hN5.cell 2
                    have z3 := hN5.cell 3
                    have z4 := hN5.cell 4
                    simp at z0 z1 z2 z3 z4
                    clear hb5 hN5
                    obtain ⟨RB, hRB⟩ : ∃ RB, rightL (tt ++ q.extract fr.size q.size).data.toList = RB := ⟨_, rfl⟩
                    rw [hRB]
                    have HRB := Lib.hid hRB; clear hRB
                    cases RB with
                    | false =>
                      have HE := Lib.hid (show renW xs fr tt = 4 from HM.out.2.2.2.2.2.2 HAT.out (by rw [HMV.out, HRB.out]; decide))
                      have HD := Lib.hid (HDNZ.out _ HB5.out 4 (by decide) (renT xs fr tt))
                      go_wp2_with fail
                      refine HD.out.mono ?_
                      rintro e w9 ⟨rfl, ⟨A4, n4, c4, hd4⟩, hg4⟩
                      have HZ := Lib.hid (And.intro hd4 (grown_trans (grown_below HB5.out : w.grownBy w5 (some br)) hg4)); clear hd4 hg4 HD
                      go_wp2_with fail
                      go_ret
                      rw [HE.out]
                      exact ⟨rfl, ⟨A4, n4, c4, HZ.out.1⟩, HZ.out.2⟩
                    | true =>
                      have HRT := Lib.hid (HM.out.2.2.2.2.2.1 (by rw [HMV.out]; exact HRB.out))
                      have HS := Lib.hid (ref16Set_any _ _ (putL ordS ((xs.take i).map (mvE fr tt))) (tt ++ q.extract fr.size q.size) ⟨kd, md, tm, dt⟩ (HR5.out.1).slv HM.out.1 (HMSZ.out.2 HRB.out) HM.out.2.1)
                      simp only [Nd.c] at HS
                      rw [setG_eq ordS_ord _ _ _ (rowUp _)] at HS
                      go_wp2_with fail
                      refine HS.out.mono ?_
                      rintro e w6 ⟨r6, rfl, ho6, hb6⟩
                      have HF6 := Lib.hid (And.intro (own_wide ho6 HB5.out.size) (HB5.out.trans (hb6.mono HB5.out.size))); clear ho6 hb6 HS
                      go_wp2_with fail
                      go_roundw
                      case rel => exact ⟨i + 1, by omega, by go_num, by rw [HM.out.2.2.2.1, HMV.out]; exact HF6.out.1, HRT.out, HF6.out.2⟩
                      case measure => simp [intOf]; omega
                  · rw [decide_eq_false hqF] at hse
                    have HNQ := Lib.hid hqF
                    have HIN := Lib.hid (inS_iff (upsS q) fr)
                    generalize inS (upsS q) fr = Q at *
                    clear hqF
                    go_wp2_with fail
                    refine (HUQ.out _).mono ?_
                    rintro e w4 ⟨rfl, hb4⟩
                    have hN4 := HR4.out.2.below hb4 HR4.out.2.lt
                    have HB4 := Lib.hid (HAF.out.trans (hb4.mono HAF.out.size))
                    have HR7 := Lib.hid (And.intro (OwnIt.below HR4.out.1 hb4) hN4)
                    have z0 := hN4.cell 0
                    have z1 := hN4.cell 1
                    have z2 := hN4.cell 2
                    have z3 := hN4.cell 3
                    have z4 := hN4.cell 4
                    simp at z0 z1 z2 z3 z4
                    clear hb4 hN4 HR4 HAF
                    cases Q with
                    | true =>
                      have HAT := Lib.hid (show q = fr ∨ fr ∈ upsS q from .inr (HIN.out.1 rfl))
                      clear z0 z1 z2 z3 z4
                      have HMV := Lib.hid (mv_at (tt := tt) HAT.out)
                      have hmv := HMV.out
                      have hxz := at_size HAT.out
                      have hes : (q.extract fr.size q.size).size ≤ 90000 := by rw [ByteArray.size_extract]; omega
                      have hms : (tt ++ q.extract fr.size q.size).size ≤ 91000 := by rw [ByteArray.size_append]; omega
                      have HRS := Lib.hid (fun W => refRight_any W (tt ++ q.extract fr.size q.size) (by omega))
                      have HMSZ := Lib.hid (And.intro hms (show rightL (tt ++ q.extract fr.size q.size).data.toList = true → (tt ++ q.extract fr.size q.size).size ≤ 90000 from fun h => by
                        have hl2 := (rightL_len h).1
                        have hz : (tt ++ q.extract fr.size q.size).data.toList.length = (tt ++ q.extract fr.size q.size).size := by simp
                        omega))
                      clear hmv
                      go_wp2_with fail
                      refine (HRS.out _).mono ?_
                      rintro e w5 ⟨rfl, hb5⟩
                      have HB5 := Lib.hid (HB4.out.trans (hb5.mono HB4.out.size))
                      have hN5 := HR7.out.2.below hb5 HR7.out.2.lt
                      have HR5 := Lib.hid (And.intro (OwnIt.below HR7.out.1 hb5) hN5)
                      have z0 := hN5.cell 0
                      have z1 := hN5.cell 1
                      have z2 := hN5.cell 2
                      have z3 := hN5.cell 3
                      have z4 := hN5.cell 4
                      simp at z0 z1 z2 z3 z4
                      clear hb5 hN5
                      obtain ⟨RB, hRB⟩ : ∃ RB, rightL (tt ++ q.extract fr.size q.size).data.toList = RB := ⟨_, rfl⟩
                      rw [hRB]
                      have HRB := Lib.hid hRB; clear hRB
                      cases RB with
                      | false =>
                        have HE := Lib.hid (show renW xs fr tt = 4 from HM.out.2.2.2.2.2.2 HAT.out (by rw [HMV.out, HRB.out]; decide))
                        have HD := Lib.hid (HDNZ.out _ HB5.out 4 (by decide) (renT xs fr tt))
                        go_wp2_with fail
                        refine HD.out.mono ?_
                        rintro e w9 ⟨rfl, ⟨A4, n4, c4, hd4⟩, hg4⟩
                        have HZ := Lib.hid (And.intro hd4 (grown_trans (grown_below HB5.out : w.grownBy w5 (some br)) hg4)); clear hd4 hg4 HD
                        go_wp2_with fail
                        go_ret
                        rw [HE.out]
                        exact ⟨rfl, ⟨A4, n4, c4, HZ.out.1⟩, HZ.out.2⟩
                      | true =>
                        have HRT := Lib.hid (HM.out.2.2.2.2.2.1 (by rw [HMV.out]; exact HRB.out))
                        have HS := Lib.hid (ref16Set_any _ _ (putL ordS ((xs.take i).map (mvE fr tt))) (tt ++ q.extract fr.size q.size) ⟨kd, md, tm, dt⟩ (HR5.out.1).slv HM.out.1 (HMSZ.out.2 HRB.out) HM.out.2.1)
                        simp only [Nd.c] at HS
                        rw [setG_eq ordS_ord _ _ _ (rowUp _)] at HS
                        go_wp2_with fail
                        refine HS.out.mono ?_
                        rintro e w6 ⟨r6, rfl, ho6, hb6⟩
                        have HF6 := Lib.hid (And.intro (own_wide ho6 HB5.out.size) (HB5.out.trans (hb6.mono HB5.out.size))); clear ho6 hb6 HS
                        go_wp2_with fail
                        go_roundw
                        case rel => exact ⟨i + 1, by omega, by go_num, by rw [HM.out.2.2.2.1, HMV.out]; exact HF6.out.1, HRT.out, HF6.out.2⟩
                        case measure => simp [intOf]; omega
                    | false =>
                      have HMV := Lib.hid (mv_away (tt := tt) HNQ.out (fun h => by have := HIN.out.2 h; cases this))
                      have HRT := Lib.hid (HM.out.2.2.2.2.2.1 (by rw [HMV.out]; exact HM.out.2.2.1))
                      have HS := Lib.hid (ref16Set_any _ _ (putL ordS ((xs.take i).map (mvE fr tt))) q ⟨kd, md, tm, dt⟩ (HR7.out.1).slv HM.out.1 (by omega) HM.out.2.1)
                      simp only [Nd.c] at HS
                      rw [setG_eq ordS_ord _ _ _ (rowUp _)] at HS
                      go_wp2_with fail
                      refine HS.out.mono ?_
                      rintro e w6 ⟨r6, rfl, ho6, hb6⟩
                      have HF6 := Lib.hid (And.intro (own_wide ho6 HB4.out.size) (HB4.out.trans (hb6.mono HB4.out.size))); clear ho6 hb6 HS
                      go_wp2_with fail
                      go_roundw
                      case rel => exact ⟨i + 1, by omega, by go_num, by rw [HM.out.2.2.2.1, HMV.out]; exact HF6.out.1, HRT.out, HF6.out.2⟩
                      case measure => simp [intOf]; omega
                · obtain rfl : n = i := by omega
                  rw [List.take_of_length_le (by rw [HL.out.1]; omega)] at hmy hoo
                  have hz : renW xs fr tt = 0 := by
                    unfold renW
                    rw [if_neg (by rw [HT0.out, HE0.out]; simp), if_pos (List.all_eq_true.2 fun e he => by
                      obtain ⟨j, hj, rfl⟩ := List.mem_iff_getElem.1 ((und_iff fr xs e).1 he).1
                      exact HA.out j hj (by rw [HL.out.1] at hj; exact hj))]
                  have href := (ren_of HL.out.2.2.ti (by rw [HL.out.1]; omega) hz).ref
                  rw [href] at hoo
                  have HE := Lib.hid hz
                  have HD := Lib.hid (rdone_any wr base br A Ay n my c cy ⟨room, fuse, ops, off, xs⟩ k 0 (renT xs fr tt) (HH.out.1.below hb) HH.out.2.2 hk (fun _ => own_wide hoo hB))
                  have HG := Lib.hid (grown_below hb : w.grownBy wr (some br)); clear hb ho hoo href hz hmy
                  go_wp2_with fail
                  refine HD.out.mono ?_
                  rintro e w4 ⟨rfl, ⟨A4, n4, c4, hd4⟩, hg4⟩
                  have HF := Lib.hid (And.intro hd4 (grown_trans HG.out hg4)); clear hd4 hg4 HD
                  go_wp2_with fail
                  go_ret
                  rw [HE.out]
                  exact ⟨rfl, ⟨A4, n4, c4, HF.out.1⟩, HF.out.2⟩
            · have HT5 := Lib.hid (show tg = (if pk = 0 then 7 else if pk = 1 then 8 else 0) from by rw [HT4.out, if_neg hps])
              obtain ⟨m, hm⟩ : ∃ m, U.length = m + 1 := ⟨U.length - 1, by have := List.length_pos_iff.2 hne; omega⟩
              obtain ⟨b, off0, rfl, hbb, hcs⟩ := HSL.out (by omega)
              have u0 := hcs m (by omega) 0 (by omega)
              have hum : U[m]'(by omega) = pu := by rw [← hla, List.getLast_eq_getElem]; congr 1; omega
              rw [hum] at u0
              simp [bE] at u0
              clear hcs
              rw [hm] at huc1 ⊢
              have hgt : (0 : Int) < ((m + 1 : Nat) : Int) := by omega
              have hsub : IntKind.i64.wrap (((m + 1 : Nat) : Int) - 1) = (m : Int) := by rw [IntWalk.i64_in _ (by omega)]; omega
              have hbx := HH.out.2.1.below HB5.out HH.out.2.1.lt
              have hl2 := hbx.lt
              have hbc := hbx.cell 0
              have j1 : ∀ m : Held (Aft w5), (HeldW m).cell? ⟨br, 0, none⟩ = some (.slice A n c) := fun m => (Aft.cell m hl2).trans hbc
              have j2 : ∀ m' : Held (Aft w5), (HeldW m').cell? ⟨b, off0 + m, none⟩ = some (.string pu) := fun m' => (Aft.cell m' hbb).trans u0
              have HGQ := Lib.hid (fun m : Held (Aft w5) => HGP.out (HeldW m) (HB5.out.trans ((HeldW_spec m : Below w5.heap.size w5 (HeldW m)).mono HB5.out.size)))
              haveI := Aft.some w5
              clear u0 hbx hbc
              go_wp2_with fail
              refine wp_region_class (Aft w5) (by kernel_rfl) (by kernel_rfl) (Aft.start w5) ?_
              repeat (go_big_quiet_step (with_reducible exact held_below Aft.keep (HGQ.out _)))
              refine wpQuiet_nil ?_
              rintro _ ⟨nn, rfl⟩
              have hb6 := HB5.out.trans ((HeldW_spec nn : Below w5.heap.size w5 (HeldW nn)).mono HB5.out.size)
              obtain ⟨w6, hw6⟩ : ∃ w6, HeldW nn = w6 := ⟨_, rfl⟩
              rw [hw6] at hb6
              rw [hw6]
              have HB6 := Lib.hid hb6
              clear hb6 hw6 j1 j2 HGQ
              by_cases hp0 : pk = 0
              · have hpe : (pk == 0) = true := by rw [hp0]; rfl
                have HE := Lib.hid (show renW xs fr tt = 7 from by have h : tg = 7 := by rw [HT5.out, if_pos hp0]
                                                                   rw [HRW.out (by rw [h]; decide), h])
                clear hp0
                have HD := Lib.hid (HDNZ.out _ HB6.out 7 (by decide) (renT xs fr tt))
                go_wp2_with fail
                refine HD.out.mono ?_
                rintro e w9 ⟨rfl, ⟨A4, n4, c4, hd4⟩, hg4⟩
                have HZ := Lib.hid (And.intro hd4 (grown_trans (grown_below HB6.out : w.grownBy w6 (some br)) hg4)); clear hd4 hg4 HD
                go_wp2_with fail
                go_ret
                rw [HE.out]
                exact ⟨rfl, ⟨A4, n4, c4, HZ.out.1⟩, HZ.out.2⟩
              · have hpe : (pk == 0) = false := by rw [beq_eq_false_iff_ne]; exact hp0
                by_cases hp1 : pk = 1
                · have hpe1 : (pk == 1) = true := by rw [hp1]; rfl
                  have HE := Lib.hid (show renW xs fr tt = 8 from by have h : tg = 8 := by rw [HT5.out, if_neg hp0, if_pos hp1]
                                                                     rw [HRW.out (by rw [h]; decide), h])
                  clear hp0 hp1
                  have HD := Lib.hid (HDNZ.out _ HB6.out 8 (by decide) (renT xs fr tt))
                  go_wp2_with fail
                  refine HD.out.mono ?_
                  rintro e w9 ⟨rfl, ⟨A4, n4, c4, hd4⟩, hg4⟩
                  have HZ := Lib.hid (And.intro hd4 (grown_trans (grown_below HB6.out : w.grownBy w6 (some br)) hg4)); clear hd4 hg4 HD
                  go_wp2_with fail
                  go_ret
                  rw [HE.out]
                  exact ⟨rfl, ⟨A4, n4, c4, HZ.out.1⟩, HZ.out.2⟩
                · have hpe1 : (pk == 1) = false := by rw [beq_eq_false_iff_ne]; exact hp1
                  have hz0 : tg = 0 := by rw [HT5.out, if_neg hp0, if_neg hp1]
                  clear hp0 hp1
                  have HE0 := Lib.hid (show tg = 0 from hz0)
                  have c0 := (HH.out.2.1.below HB6.out HH.out.2.1.lt).cell 0
                  simp at c0
                  go_wp2_with fail
                  clear c0
                  go_loopw [9, 78] (fun ov iv wr => ∃ i : Nat, i ≤ n ∧ iv = .int .i64 i ∧ OwnIt wr w.heap.size ov (putL ordS ((xs.take i).map (mvE fr tt))) ∧ (∀ k (hk : k < xs.length), k < i → rightL (mvS fr tt xs[k].1).data.toList = true) ∧ Below w.heap.size w wr) (fun _ iv _ => n - (intOf iv).toNat)
                  case atStart => exact ⟨0, Nat.zero_le _, rfl, World.ownsRow_nil _ _ _ _, fun k _ h => absurd h (Nat.not_lt_zero _), HB6.out⟩
                  case round =>
                    obtain ⟨i, hi, rfl, ho, hall, hb⟩ := hrel
                    have HA := Lib.hid hall; clear hall
                    have hoo := ho
                    obtain ⟨Ay, cy, rfl, hyc1, hyc2, _⟩ := SlV_of_any ho
                    have hyl : (putL ordS ((xs.take i).map (mvE fr tt))).length ≤ 400 := Nat.le_trans (putL_length _) (by rw [List.length_map, List.length_take]; omega)
                    obtain ⟨my, hmy⟩ : ∃ my, (putL ordS ((xs.take i).map (mvE fr tt))).length = my := ⟨_, rfl⟩
                    rw [hmy] at hyc1 hoo
                    rw [hmy]
                    by_cases hlt : i < n
                    · have hiL : i < xs.length := by rw [HL.out.1]; exact hlt
                      obtain ⟨b, off2, rfl, hbb, hcs⟩ := (HL.out.2.1.below hb (Nat.le_refl _)) (by omega)
                      have c0 := hcs i hiL 0 (by omega)
                      have c1 := hcs i hiL 1 (by omega)
                      have c2 := hcs i hiL 2 (by omega)
                      have c3' := hcs i hiL 3 (by omega)
                      have c4 := hcs i hiL 4 (by omega)
                      simp only [eCSN, List.getElem?_cons_succ, List.getElem?_cons_zero, Nat.add_zero] at c0 c1 c2 c3' c4
                      clear hcs
                      have hi1 : (i : Int) < n := by omega
                      have hqs := HPT.out xs[i] (List.getElem_mem hiL)
                      have hst := ren_step fr tt xs i hiL
                      have hqr := HL.out.2.2.ti.paths xs[i] (List.getElem_mem hiL)
                      have hmem : ∀ e ∈ putL ordS ((xs.take i).map (mvE fr tt)), e.1.size ≤ 90000 := fun e he => by
                        obtain ⟨a, ha, rfl⟩ := List.mem_map.1 (putL_sub _ he)
                        obtain ⟨j, hj, rfl⟩ := List.mem_iff_getElem.1 ha
                        have hj2 : j < i := by rw [List.length_take] at hj; omega
                        have hj3 : j < xs.length := by omega
                        have h1 := HA.out j hj3 hj2
                        rw [List.getElem_take]
                        have hl2 := (rightL_len h1).1
                        have hz : (mvS fr tt xs[j].1).data.toList.length = (mvS fr tt xs[j].1).size := by simp
                        show (mvS fr tt xs[j].1).size ≤ 90000
                        omega
                      have hnext : rightL (mvS fr tt xs[i].1).data.toList = true → ∀ k (hk : k < xs.length), k < i + 1 → rightL (mvS fr tt xs[k].1).data.toList = true := fun h k hk hki => by
                        by_cases e : k = i
                        · subst e; exact h
                        · exact HA.out k hk (by omega)
                      have hno : (xs[i].1 = fr ∨ fr ∈ upsS xs[i].1) → ¬ rightL (mvS fr tt xs[i].1).data.toList = true → renW xs fr tt = 4 := fun ha hn => by
                        have hna : ¬ ((undT fr xs).all fun e => rightL (mvS fr tt e.1).data.toList) = true := fun h => hn (List.all_eq_true.1 h _ ((und_iff fr xs _).2 ⟨List.getElem_mem hiL, ha⟩))
                        unfold renW
                        rw [if_neg (by rw [HT0.out, HE0.out]; simp), if_neg hna]
                      obtain ⟨⟨q, kd, md, tm, dt⟩, hx⟩ : ∃ x, xs[i] = x := ⟨_, rfl⟩
                      simp only [hx] at c0 c1 c2 c3' c4 hqs hst hqr hnext hno
                      clear hx
                      have HM := Lib.hid (And.intro (show (putL ordS ((xs.take i).map (mvE fr tt))).length ≤ 1000 from by omega) (And.intro hmem (And.intro hqr (And.intro hst (And.intro hmy (And.intro hnext hno))))))
                      have hse := str_eq q fr
                      have HAF := Lib.hid (hb.trans (((Below.refl wr.heap.size wr).alloc (Nat.le_refl _) (.cells #[.string q, .int .i64 kd, .int .i64 md, .int .u32 tm, .string dt] 32)).mono hb.size))
                      have HR4 := Lib.hid (And.intro (OwnIt.below hoo ((Below.refl wr.heap.size wr).alloc (Nat.le_refl _) (.cells #[.string q, .int .i64 kd, .int .i64 md, .int .u32 tm, .string dt] 32))) (Blk.new wr 32 #[.string q, .int .i64 kd, .int .i64 md, .int .u32 tm, .string dt]))
                      have HUQ := Lib.hid (fun W => ref16Under_any W fr q (by omega))
                      clear hst hqr hnext hno hmem hb ho hoo hmy
                      by_cases hqF : q = fr
                      · rw [decide_eq_true hqF] at hse
                        have HAT := Lib.hid (show q = fr ∨ fr ∈ upsS q from .inl hqF)
                        clear hqF
                        have HMV := Lib.hid (mv_at (tt := tt) HAT.out)
                        have hmv := HMV.out
                        have hxz := at_size HAT.out
                        have hes : (q.extract fr.size q.size).size ≤ 90000 := by rw [ByteArray.size_extract]; omega
                        have hms : (tt ++ q.extract fr.size q.size).size ≤ 91000 := by rw [ByteArray.size_append]; omega
                        have HRS := Lib.hid (fun W => refRight_any W (tt ++ q.extract fr.size q.size) (by omega))
                        have HMSZ := Lib.hid (And.intro hms (show rightL (tt ++ q.extract fr.size q.size).data.toList = true → (tt ++ q.extract fr.size q.size).size ≤ 90000 from fun h => by
                          have hl2 := (rightL_len h).1
                          have hz : (tt ++ q.extract fr.size q.size).data.toList.length = (tt ++ q.extract fr.size q.size).size := by simp
                          omega))
                        clear hmv
                        go_wp2_with fail
                        refine (HRS.out _).mono ?_
                        rintro e w5 ⟨rfl, hb5⟩
                        have HB5 := Lib.hid (HAF.out.trans (hb5.mono HAF.out.size))
                        have hN5 := HR4.out.2.below hb5 HR4.out.2.lt
                        have HR5 := Lib.hid (And.intro (OwnIt.below HR4.out.1 hb5) hN5)
                        have z0 := hN5.cell 0
                        have z1 := hN5.cell 1
                        have z2 := hN5.cell 2
                        have z3 := hN5.cell 3
                        have z4 := hN5.cell 4
                        simp at z0 z1 z2 z3 z4
                        clear hb5 hN5
                        obtain ⟨RB, hRB⟩ : ∃ RB, rightL (tt ++ q.extract fr.size q.size).data.toList = RB := ⟨_, rfl⟩
                        rw [hRB]
                        have HRB := Lib.hid hRB; clear hRB
                        cases RB with
                        | false =>
                          have HE := Lib.hid (show renW xs fr tt = 4 from HM.out.2.2.2.2.2.2 HAT.out (by rw [HMV.out, HRB.out]; decide))
                          have HD := Lib.hid (HDNZ.out _ HB5.out 4 (by decide) (renT xs fr tt))
                          go_wp2_with fail
                          refine HD.out.mono ?_
                          rintro e w9 ⟨rfl, ⟨A4, n4, c4, hd4⟩, hg4⟩
                          have HZ := Lib.hid (And.intro hd4 (grown_trans (grown_below HB5.out : w.grownBy w5 (some br)) hg4)); clear hd4 hg4 HD
                          go_wp2_with fail
                          go_ret
                          rw [HE.out]
                          exact ⟨rfl, ⟨A4, n4, c4, HZ.out.1⟩, HZ.out.2⟩
                        | true =>
                          have HRT := Lib.hid (HM.out.2.2.2.2.2.1 (by rw [HMV.out]; exact HRB.out))
                          have HS := Lib.hid (ref16Set_any _ _ (putL ordS ((xs.take i).map (mvE fr tt))) (tt ++ q.extract fr.size q.size) ⟨kd, md, tm, dt⟩ (HR5.out.1).slv HM.out.1 (HMSZ.out.2 HRB.out) HM.out.2.1)
                          simp only [Nd.c] at HS
                          rw [setG_eq ordS_ord _ _ _ (rowUp _)] at HS
                          go_wp2_with fail
                          refine HS.out.mono ?_
                          rintro e w6 ⟨r6, rfl, ho6, hb6⟩
                          have HF6 := Lib.hid (And.intro (own_wide ho6 HB5.out.size) (HB5.out.trans (hb6.mono HB5.out.size))); clear ho6 hb6 HS
                          go_wp2_with fail
                          go_roundw
                          case rel => exact ⟨i + 1, by omega, by go_num, by rw [HM.out.2.2.2.1, HMV.out]; exact HF6.out.1, HRT.out, HF6.out.2⟩
                          case measure => simp [intOf]; omega
                      · rw [decide_eq_false hqF] at hse
                        have HNQ := Lib.hid hqF
                        have HIN := Lib.hid (inS_iff (upsS q) fr)
                        generalize inS (upsS q) fr = Q at *
                        clear hqF
                        go_wp2_with fail
                        refine (HUQ.out _).mono ?_
                        rintro e w4 ⟨rfl, hb4⟩
                        have hN4 := HR4.out.2.below hb4 HR4.out.2.lt
                        have HB4 := Lib.hid (HAF.out.trans (hb4.mono HAF.out.size))
                        have HR7 := Lib.hid (And.intro (OwnIt.below HR4.out.1 hb4) hN4)
                        have z0 := hN4.cell 0
                        have z1 := hN4.cell 1
                        have z2 := hN4.cell 2
                        have z3 := hN4.cell 3
                        have z4 := hN4.cell 4
                        simp at z0 z1 z2 z3 z4
                        clear hb4 hN4 HR4 HAF
                        cases Q with
                        | true =>
                          have HAT := Lib.hid (show q = fr ∨ fr ∈ upsS q from .inr (HIN.out.1 rfl))
                          clear z0 z1 z2 z3 z4
                          have HMV := Lib.hid (mv_at (tt := tt) HAT.out)
                          have hmv := HMV.out
                          have hxz := at_size HAT.out
                          have hes : (q.extract fr.size q.size).size ≤ 90000 := by rw [ByteArray.size_extract]; omega
                          have hms : (tt ++ q.extract fr.size q.size).size ≤ 91000 := by rw [ByteArray.size_append]; omega
                          have HRS := Lib.hid (fun W => refRight_any W (tt ++ q.extract fr.size q.size) (by omega))
                          have HMSZ := Lib.hid (And.intro hms (show rightL (tt ++ q.extract fr.size q.size).data.toList = true → (tt ++ q.extract fr.size q.size).size ≤ 90000 from fun h => by
                            have hl2 := (rightL_len h).1
                            have hz : (tt ++ q.extract fr.size q.size).data.toList.length = (tt ++ q.extract fr.size q.size).size := by simp
                            omega))
                          clear hmv
                          go_wp2_with fail
                          refine (HRS.out _).mono ?_
                          rintro e w5 ⟨rfl, hb5⟩
                          have HB5 := Lib.hid (HB4.out.trans (hb5.mono HB4.out.size))
                          have hN5 := HR7.out.2.below hb5 HR7.out.2.lt
                          have HR5 := Lib.hid (And.intro (OwnIt.below HR7.out.1 hb5) hN5)
                          have z0 := hN5.cell 0
                          have z1 := hN5.cell 1
                          have z2 := hN5.cell 2
                          have z3 := hN5.cell 3
                          have z4 := hN5.cell 4
                          simp at z0 z1 z2 z3 z4
                          clear hb5 hN5
                          obtain ⟨RB, hRB⟩ : ∃ RB, rightL (tt ++ q.extract fr.size q.size).data.toList = RB := ⟨_, rfl⟩
                          rw [hRB]
                          have HRB := Lib.hid hRB; clear hRB
                          cases RB with
                          | false =>
                            have HE := Lib.hid (show renW xs fr tt = 4 from HM.out.2.2.2.2.2.2 HAT.out (by rw [HMV.out, HRB.out]; decide))
                            have HD := Lib.hid (HDNZ.out _ HB5.out 4 (by decide) (renT xs fr tt))
                            go_wp2_with fail
                            refine HD.out.mono ?_
                            rintro e w9 ⟨rfl, ⟨A4, n4, c4, hd4⟩, hg4⟩
                            have HZ := Lib.hid (And.intro hd4 (grown_trans (grown_below HB5.out : w.grownBy w5 (some br)) hg4)); clear hd4 hg4 HD
                            go_wp2_with fail
                            go_ret
                            rw [HE.out]
                            exact ⟨rfl, ⟨A4, n4, c4, HZ.out.1⟩, HZ.out.2⟩
                          | true =>
                            have HRT := Lib.hid (HM.out.2.2.2.2.2.1 (by rw [HMV.out]; exact HRB.out))
                            have HS := Lib.hid (ref16Set_any _ _ (putL ordS ((xs.take i).map (mvE fr tt))) (tt ++ q.extract fr.size q.size) ⟨kd, md, tm, dt⟩ (HR5.out.1).slv HM.out.1 (HMSZ.out.2 HRB.out) HM.out.2.1)
                            simp only [Nd.c] at HS
                            rw [setG_eq ordS_ord _ _ _ (rowUp _)] at HS
                            go_wp2_with fail
                            refine HS.out.mono ?_
                            rintro e w6 ⟨r6, rfl, ho6, hb6⟩
                            have HF6 := Lib.hid (And.intro (own_wide ho6 HB5.out.size) (HB5.out.trans (hb6.mono HB5.out.size))); clear ho6 hb6 HS
                            go_wp2_with fail
                            go_roundw
                            case rel => exact ⟨i + 1, by omega, by go_num, by rw [HM.out.2.2.2.1, HMV.out]; exact HF6.out.1, HRT.out, HF6.out.2⟩
                            case measure => simp [intOf]; omega
                        | false =>
                          have HMV := Lib.hid (mv_away (tt := tt) HNQ.out (fun h => by have := HIN.out.2 h; cases this))
                          have HRT := Lib.hid (HM.out.2.2.2.2.2.1 (by rw [HMV.out]; exact HM.out.2.2.1))
                          have HS := Lib.hid (ref16Set_any _ _ (putL ordS ((xs.take i).map (mvE fr tt))) q ⟨kd, md, tm, dt⟩ (HR7.out.1).slv HM.out.1 (by omega) HM.out.2.1)
                          simp only [Nd.c] at HS
                          rw [setG_eq ordS_ord _ _ _ (rowUp _)] at HS
                          go_wp2_with fail
                          refine HS.out.mono ?_
                          rintro e w6 ⟨r6, rfl, ho6, hb6⟩
                          have HF6 := Lib.hid (And.intro (own_wide ho6 HB4.out.size) (HB4.out.trans (hb6.mono HB4.out.size))); clear ho6 hb6 HS
                          go_wp2_with fail
                          go_roundw
                          case rel => exact ⟨i + 1, by omega, by go_num, by rw [HM.out.2.2.2.1, HMV.out]; exact HF6.out.1, HRT.out, HF6.out.2⟩
                          case measure => simp [intOf]; omega
                    · obtain rfl : n = i := by omega
                      rw [List.take_of_length_le (by rw [HL.out.1]; omega)] at hmy hoo
                      have hz : renW xs fr tt = 0 := by
                        unfold renW
                        rw [if_neg (by rw [HT0.out, HE0.out]; simp), if_pos (List.all_eq_true.2 fun e he => by
                          obtain ⟨j, hj, rfl⟩ := List.mem_iff_getElem.1 ((und_iff fr xs e).1 he).1
                          exact HA.out j hj (by rw [HL.out.1] at hj; exact hj))]
                      have href := (ren_of HL.out.2.2.ti (by rw [HL.out.1]; omega) hz).ref
                      rw [href] at hoo
                      have HE := Lib.hid hz
                      have HD := Lib.hid (rdone_any wr base br A Ay n my c cy ⟨room, fuse, ops, off, xs⟩ k 0 (renT xs fr tt) (HH.out.1.below hb) HH.out.2.2 hk (fun _ => own_wide hoo hB))
                      have HG := Lib.hid (grown_below hb : w.grownBy wr (some br)); clear hb ho hoo href hz hmy
                      go_wp2_with fail
                      refine HD.out.mono ?_
                      rintro e w4 ⟨rfl, ⟨A4, n4, c4, hd4⟩, hg4⟩
                      have HF := Lib.hid (And.intro hd4 (grown_trans HG.out hg4)); clear hd4 hg4 HD
                      go_wp2_with fail
                      go_ret
                      rw [HE.out]
                      exact ⟨rfl, ⟨A4, n4, c4, HF.out.1⟩, HF.out.2⟩
          · have hte : (tk != 0) = true := by rw [bne_iff_ne]; exact htk
            have HE := Lib.hid (show renW xs fr tt = 6 from by have h : tg = 6 := by rw [HT3.out, if_pos htk]
                                                               rw [HRW.out (by rw [h]; decide), h])
            clear htk
            have HD := Lib.hid (HDNZ.out _ HB4.out 6 (by decide) (renT xs fr tt))
            go_wp2_with fail
            refine HD.out.mono ?_
            rintro e w9 ⟨rfl, ⟨A4, n4, c4, hd4⟩, hg4⟩
            have HZ := Lib.hid (And.intro hd4 (grown_trans (grown_below HB4.out : w.grownBy w4 (some br)) hg4)); clear hd4 hg4 HD
            go_wp2_with fail
            go_ret
            rw [HE.out]
            exact ⟨rfl, ⟨A4, n4, c4, HZ.out.1⟩, HZ.out.2⟩
end Go.Proofs.YtcpmhjealiajpaaGreatDoor
/- The reference's directory and the live one, side by side: what the one writes leaves the other. -/
set_option linter.unusedVariables false
set_option linter.unusedSimpArgs false
namespace Go.Proofs.YtcpmhjealiajpaaGreatDoor
open Go Go.RowKit
open Sw
theorem RefD.far {W W' : World} {base br g : Nat} {lv : Value} {s : DS} {t : TypeId} {cs : Array Value} (h : RefD W base br lv s) (hB : Blk W g t cs) (h1 : 58 ≠ t) (h2 : 32 ≠ t) (hg : W.grownBy W' (some g)) : RefD W' base br lv s :=
  ⟨h.box.grown hg (by simpa using Blk.other h.box hB h1), own_blk_kept h.row hB h2 hg⟩
theorem DirAt.far {W W' : World} {bd bt bm g : Nat} {s : DS} {t : TypeId} {cs : Array Value} (h : DirAt W bd bt bm s) (hB : Blk W g t cs) (h0 : 88 ≠ t) (h1 : 72 ≠ t) (h2 : 96 ≠ t) (h3 : 103 ≠ t) (hg : W.grownBy W' (some g)) : DirAt W' bd bt bm s :=
  ⟨h.box.grown hg (by simpa using Blk.other h.box hB h0), h.tree.far hB h1 h2 h3 hg⟩
/-- both directories, at the same state -/
structure Two18 (w : World) (base bd br : Nat) (s : DS) (W : World) : Prop where
  dir : ∃ bt bm, DirAt W bd bt bm s
  ref : ∃ A n c, RefD W base br (.slice A n c) s
  old : Below base w W
theorem Two18.below {w W W' : World} {base bd br : Nat} {s : DS} (h : Two18 w base bd br s W) (hB : base ≤ W.heap.size) (hb : Below W.heap.size W W') : Two18 w base bd br s W' := by
  obtain ⟨bt, bm, h1⟩ := h.dir
  obtain ⟨A, n, c, h2⟩ := h.ref
  exact ⟨⟨bt, bm, h1.below hb⟩, ⟨A, n, c, h2.below hb⟩, h.old.trans (hb.mono hB)⟩
theorem Two18.size {w W : World} {bd br : Nat} {s : DS} (h : Two18 w w.heap.size bd br s W) : w.heap.size ≤ W.heap.size := h.old.size
end Go.Proofs.YtcpmhjealiajpaaGreatDoor
