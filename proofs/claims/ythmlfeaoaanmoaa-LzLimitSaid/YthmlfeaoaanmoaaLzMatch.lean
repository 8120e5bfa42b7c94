/- lz.Match, in general. -/
import Derived.Test.YthmlfeaoaanmoaaLzMatPlain
import Derived.Test.YthmlfeaoaanmoaaLzPutB
import Derived.Deep.CutBlock
set_option linter.unusedVariables false
set_option linter.unusedSimpArgs false
namespace Go.Proofs.Ythmlfeaoaanmoaa
open Go Go.RowKit Go.Maps
open Sw
/-- the round's state -/
structure MSt (w wr : World) (s : ByteArray) (dv : Int) (o : Value) (kn : Bool) (at_ : Nat) (ts : List Tk) (av : Value) (D : DataW Unit) (ah : List Int) (L B : Nat) : Prop where
  fd : Fd wr w.heap.size (w.heap.size + 1) w.heap.size s (.int .i64 dv) at_ av D ah
  nb : Blk wr (w.heap.size + 1 + 1) 80 #[.int .u8 0, .int .i64 L, .int .i64 B]
  inv : MInv s at_ ts kn
  next : kn = true → TOk s at_ L B ∧ 3 ≤ L
  out : wr.ownsRow w.heap.size 80 3 o ts.length (rowT ts)
  bel : Below w.heap.size w wr
  sep : some (w.heap.size + 1 + 1) ≠ o.ownBlock
theorem own_same {w w' : World} {base : Nat} {e : TypeId} {size n : Nat} {v : Value} {xs : List Value} (h : w.ownsRow base e size v n xs) (he : ∀ k, some k = v.ownBlock → w'.heap[k]? = w.heap[k]?) : w'.ownsRow base e size v n xs := by
  refine ⟨h.1, ?_⟩
  rcases h.2 with h2 | ⟨g', cap, cur, rfl, h3, h4, h5⟩
  · exact .inl h2
  · exact .inr ⟨g', cap, cur, rfl, h3, (he g' rfl).trans h4, h5⟩
theorem own_own_ne {w : World} {base base' : Nat} {e e' : TypeId} {size size' n n' : Nat} {v v' : Value} {xs xs' : List Value} (h : w.ownsRow base e size v n xs) (h' : w.ownsRow base' e' size' v' n' xs') (hne : e ≠ e') : ∀ k, some k = v.ownBlock → some k ≠ v'.ownBlock := by
  intro k hk hk'
  rcases h.2 with ⟨rfl, _⟩ | ⟨g, cap, cur, rfl, _, h4, _⟩
  · cases hk
  · rcases h'.2 with ⟨rfl, _⟩ | ⟨g', cap', cur', rfl, _, h4', _⟩
    · cases hk'
    · injection hk with hk
      injection hk' with hk'
      subst hk
      subst hk'
      rw [h4] at h4'
      injection h4' with h4'
      injection h4' with _ h4'
      exact hne h4'
theorem Keep3.blk {w w' : World} {base g b : Nat} {s : ByteArray} {dp : Value} {m : Nat} {av : Value} {D : DataW Unit} {ah : List Int} (h : Keep3 w w' g b av) (hF : Fd w base g b s dp m av D ah) {k : Nat} {t : TypeId} {cs : Array Value} (hk : Blk w k t cs) (h1 : t ≠ 105) (h2 : t ≠ 3) : Blk w' k t cs :=
  (h.block k hk.lt (Blk.other hk hF.blk h1) (blk_map_ne hk hF.own) (own_blk_ne hF.row hk (fun e => h2 e.symm))).trans hk
theorem Keep3.row {w w' : World} {base g b : Nat} {s : ByteArray} {dp : Value} {m : Nat} {av : Value} {D : DataW Unit} {ah : List Int} (h : Keep3 w w' g b av) (hF : Fd w base g b s dp m av D ah) {base' : Nat} {e : TypeId} {size n : Nat} {v : Value} {xs : List Value} (hr : w.ownsRow base' e size v n xs) (h1 : e ≠ 105) (h2 : e ≠ 3) : w'.ownsRow base' e size v n xs :=
  own_same hr fun k hk => h.block k (hr.lt k hk.symm).2 (fun e => own_blk_ne hr hF.blk h1 (by rw [← hk, e])) (fun e => own_map_ne hr hF.own (by rw [← hk, e])) (own_own_ne hr hF.row h2 k hk)
theorem put_all (base g b : Nat) (s : ByteArray) (dp : Value) (m : Nat) (av : Value) (D : DataW Unit) (ah : List Int) (w : World) (h : Fd w base g b s dp m av D ah) (hs : s.size ≤ 65000) (h0 : m < s.size) (hbw : base ≤ w.heap.size) :
    Calls Try.prog 63 #[.pointer (some ⟨g, 0, none⟩), .int .i64 m] w fun e w' => (∃ r, e = .returned r) ∧ (∃ av' D' ah', Fd w' base g b s dp (m + 1) av' D' ah') ∧ Keep3 w w' g b av := by
  by_cases h2 : m + 2 < s.size
  · exact put_long base g b s dp m av D ah w h (by omega) h0 (by omega) h2 hbw
  · exact put_end base g b s dp m av D ah w h (by omega) (by omega) (by omega) hbw
theorem Fd.below {w w' : World} {base g b : Nat} {s : ByteArray} {dp : Value} {m : Nat} {av : Value} {D : DataW Unit} {ah : List Int} (h : Fd w base g b s dp m av D ah) (hb : Below w.heap.size w w') : Fd w' base g b s dp m av D ah :=
  ⟨h.blk.below hb h.blk.lt, h.own.kept (grown_below (row := none) hb) (by simp), own_kept h.row hb, h.ok, h.low, h.gb, h.bb⟩
theorem Fd.grown {w w' : World} {base g b : Nat} {s : ByteArray} {dp : Value} {m : Nat} {av : Value} {D : DataW Unit} {ah : List Int} {k : Nat} (h : Fd w base g b s dp m av D ah) (hg : w.grownBy w' (some k)) {t : TypeId} {cs : Array Value} (hk : Blk w k t cs) (h1 : t ≠ 105) (h2 : t ≠ 3) : Fd w' base g b s dp m av D ah :=
  ⟨h.blk.grown hg (fun e => Blk.other hk h.blk h1 (Option.some.inj e).symm), h.own.kept hg (fun e => blk_map_ne hk h.own (Option.some.inj e).symm), h.row.kept hg (.inr (own_blk_ne h.row hk (fun e => h2 e.symm)).symm), h.ok, h.low, h.gb, h.bb⟩
theorem Fd.app {w w' : World} {base g b : Nat} {s : ByteArray} {dp : Value} {m : Nat} {av : Value} {D : DataW Unit} {ah : List Int} (h : Fd w base g b s dp m av D ah) {base' : Nat} {e : TypeId} {size n : Nat} {v : Value} {xs : List Value} (hr : w.ownsRow base' e size v n xs) (hg : w.grownBy w' v.ownBlock) (h1 : e ≠ 105) (h2 : e ≠ 3) : Fd w' base g b s dp m av D ah :=
  ⟨h.blk.grown hg (own_blk_ne hr h.blk h1), h.own.kept hg (own_map_ne hr h.own), own_same h.row fun k hk => hg.block k (h.row.lt k hk.symm).2 (fun e => own_own_ne hr h.row h2 k e hk), h.ok, h.low, h.gb, h.bb⟩
set_option maxRecDepth 100000 in
set_option maxHeartbeats 8000000 in
theorem match_any (w : World) (s : ByteArray) (lv : Int) (hs : s.size ≤ 65000) (hl1 : 1 ≤ lv) (hl2 : lv ≤ 9223372036854775807) :
    Calls Try.prog 43 #[.string s, .int .i64 lv] w fun e w' => ∃ v ts kn, e = .returned v ∧ w'.ownsRow w.heap.size 80 3 v ts.length (rowT ts) ∧ MInv s s.size ts kn ∧ Below w.heap.size w w' := by
  have hmm := @run_makeMap Try.prog
  obtain ⟨l, hl, hl3, hl4⟩ : ∃ l : Int, max 0 (min lv 9) = l ∧ 1 ≤ l ∧ l ≤ 9 := ⟨max 0 (min lv 9), rfl, by omega, by omega⟩
  have e0 : (l == 0) = false := by rw [beq_eq_false_iff_ne]; omega
  obtain ⟨dv, hdv, hd1, hd2⟩ : ∃ dv : Int, wrap64 (2 * 2 ^ l.toNat) = dv ∧ 1 ≤ dv ∧ dv ≤ 1024 := ⟨_, rfl, by
    have : l = 1 ∨ l = 2 ∨ l = 3 ∨ l = 4 ∨ l = 5 ∨ l = 6 ∨ l = 7 ∨ l = 8 ∨ l = 9 := by omega
    rcases this with rfl | rfl | rfl | rfl | rfl | rfl | rfl | rfl | rfl <;> decide +kernel⟩
  have HDV := Lib.hid hdv; clear hdv
  go_enter Try.func43, Try.ntmps43
  go_wp2_with fail
  rw [HDV.out]
  clear HDV
  go_loopw [4, 7, 8, 9, 10] (fun o kv t _ _ wr => ∃ (kn : Bool) (a : Nat) (ts : List Tk) (av : Value) (D : DataW Unit) (ah : List Int) (L B : Nat), kv = .bool kn ∧ t = .int .i64 a ∧ MSt w wr s dv o kn a ts av D ah L B) (fun _ _ t _ _ _ => s.size - (intOf t).toNat)
  case atStart =>
    refine ⟨false, 0, [], .slice none 0 0, .map [], [], 0, 0, rfl, rfl, ⟨⟨blk_mid _ _ _ _ _, ?_, ⟨rfl, .inl ⟨rfl, rfl⟩⟩, ⟨?_, ?_, ?_⟩, fun p hp => absurd hp (by simp), Nat.le_succ _, Nat.le_refl _⟩, blk_trd _ _ _ _ _, MInv.start s, (fun h => by cases h), ⟨rfl, .inl ⟨rfl, rfl⟩⟩, (((Below.refl _ _).alloc (Nat.le_refl _) _).alloc (by simp) _).alloc (by simp; omega) _, by simp [Value.ownBlock]⟩⟩
    · exact ((World.ownsMap_made w _ _ _).alloc _).alloc _
    · exact isMap_empty
    · intro kl c h
      simp [Maps.has] at h
    · intro h
      omega
  case round =>
    obtain ⟨kn, a, ts, av, D, ah, L, B, rfl, rfl, hst⟩ := hrel
    by_cases hlt : a < s.size
    · obtain ⟨hfd, hnb, hinv, hnext, hout, hbel, hsep⟩ := hst
      have hsz := hbel.size
      have hnlt := hnb.lt
      have hb1 : Below wr.heap.size wr (wr.alloc (Obj.cells #[.int .u8 0, .int .i64 L, .int .i64 B] 80)) := (Below.refl _ _).alloc (Nat.le_refl _) _
      have hN1 := Blk.new wr 80 #[.int .u8 0, .int .i64 L, .int .i64 B]
      have hB := fun W (hb : Below wr.heap.size wr W) => best_all _ _ _ s dv a a av D ah W (hfd.below hb) (by omega) hlt (Nat.le_refl _) hd1 hd2
      have HB := Lib.hid hB; clear hB
      have HFD := Lib.hid hfd; clear hfd
      have HINV := Lib.hid hinv; clear hinv
      have HNX := Lib.hid hnext; clear hnext
      have HOUT := Lib.hid hout; clear hout
      have t0 := hnb.cell 0
      have t1 := hnb.cell 1
      have t2 := hnb.cell 2
      simp at t0 t1 t2
      have HNB := Lib.hid hnb; clear hnb hmm hl
      go_upto_if 35 with fail
      go_cut [9] from 35 to 38 (fun p wx => p = .pointer (some ⟨wr.heap.size, 0, none⟩) ∧ ∃ L B : Nat, Blk wx wr.heap.size 80 #[.int .u8 0, .int .i64 L, .int .i64 B] ∧ TOk s a L B ∧ Below wr.heap.size wr wx)
      case first =>
        cases kn with
        | true =>
          go_wp2_with fail
          go_meet
          case rel => exact ⟨rfl, L, B, hN1, (HNX.out (by simp)).1, hb1⟩
        | false =>
          go_wp2_with fail
          refine (HB.out _ hb1).mono ?_
          rintro e w2 ⟨⟨L2, B2, rfl, c1, c2, c3⟩, hb2⟩
          have hN2 := hN1.below hb2 hN1.lt
          have n0 := hN2.cell 0
          have n1 := hN2.cell 1
          have n2 := hN2.cell 2
          have m0 := hN2.frozen 0
          have m1 := hN2.frozen 1
          have m2 := hN2.frozen 2
          simp at n0 n1 n2
          have HC := Lib.hid (TOk.best c1 c2 c3); clear c1 c2 c3
          have HN2 := Lib.hid hN2; clear hN2
          go_wp2_with fail
          go_meet
          case rel =>
            refine ⟨rfl, L2, B2, ((HN2.out.put 0 _).put 1 _).put 2 _, HC.out, ?_⟩
            exact ((((hb1.trans (hb2.mono hb1.size)).setCell (p := ⟨wr.heap.size, 0, none⟩) (Nat.le_refl _) _).setCell (p := ⟨wr.heap.size, 1, none⟩) (Nat.le_refl _) _).setCell (p := ⟨wr.heap.size, 2, none⟩) (Nat.le_refl _) _)
      case rest =>
        obtain ⟨rfl, L2, B2, hTB, hT, hbr⟩ := hcut
        have hsz1 := hbr.size
        have hF1 := HFD.out.below hbr
        have hN2 := HNB.out.below hbr HNB.out.lt
        have hO2 := own_kept HOUT.out hbr
        have hbel1 := hbel.trans (hbr.mono hsz)
        have HP := Lib.hid (put_all _ _ _ s (.int .i64 dv) a av D ah wc hF1 hs hlt (by omega))
        have hoT : some wr.heap.size ≠ u4.ownBlock := fun e => own_ne HOUT.out wr.heap.size (Nat.le_refl _) e.symm
        have htn : wr.heap.size ≠ w.heap.size + 1 + 1 := by omega
        generalize wr.heap.size = tb at *
        clear hb1 hN1 HB t0 t1 t2 hbr HFD HNB HOUT HNX
        have HF1 := Lib.hid hF1; clear hF1
        have HN2 := Lib.hid hN2; clear hN2
        have HO2 := Lib.hid hO2; clear hO2
        have HTB := Lib.hid hTB; clear hTB
        have HT := Lib.hid hT; clear hT
        go_wp2_with fail
        refine HP.out.mono ?_
        rintro e w4 ⟨⟨r, rfl⟩, ⟨av4, D4, ah4, hF4⟩, hk4⟩
        have hTB4 := hk4.blk HF1.out HTB.out (by decide) (by decide)
        have hNB4 := hk4.blk HF1.out HN2.out (by decide) (by decide)
        have hO4 := hk4.row HF1.out HO2.out (by decide) (by decide)
        have hbel4 := keep3_below hk4 hbel1 (by omega) (by omega) (Nat.le_refl _) (fun k hk => ((HF1.out.row).lt k hk).1)
        have hsz4 := hbel4.size
        clear HF1 HN2 HO2 HTB HP hk4
        have d1 := hTB4.cell 1
        simp at d1
        obtain ⟨look, hlook⟩ : ∃ x : Bool, x = (decide ((0 : Int) < L2) && decide (4 ≤ l) && decide ((a : Int) + 1 < s.size)) := ⟨_, rfl⟩
        have HLK := Lib.hid hlook; clear hlook
        have HF4 := Lib.hid hF4; clear hF4
        have HN4 := Lib.hid hNB4; clear hNB4
        have HO4 := Lib.hid hO4; clear hO4
        have HT4 := Lib.hid hTB4; clear hTB4
        go_upto_region 14 with fail
        go_cut [55] from 42 to 55 (fun v wx => v = .bool look ∧ wx = w4)
        case first =>
          by_cases p1 : (0 : Int) < L2
          · by_cases p2 : 4 ≤ l
            · by_cases p3 : (a : Int) + 1 < s.size
              · have HV := Lib.hid (show look = true by rw [HLK.out, decide_eq_true p1, decide_eq_true p2, decide_eq_true p3]; rfl)
                go_wp2_with fail
                go_meet
                case rel => exact ⟨by rw [HV.out], rfl⟩
              · have HV := Lib.hid (show look = false by rw [HLK.out, decide_eq_true p1, decide_eq_true p2, decide_eq_false p3]; rfl)
                go_wp2_with fail
                go_meet
                case rel => exact ⟨by rw [HV.out], rfl⟩
            · have HV := Lib.hid (show look = false by rw [HLK.out, decide_eq_true p1, decide_eq_false p2]; rfl)
              go_wp2_with fail
              go_meet
              case rel => exact ⟨by rw [HV.out], rfl⟩
          · have HV := Lib.hid (show look = false by rw [HLK.out, decide_eq_false p1]; rfl)
            go_wp2_with fail
            go_meet
            case rel => exact ⟨by rw [HV.out], rfl⟩
        case rest =>
          obtain ⟨rfl, rfl⟩ := hcut
          generalize wc = w4 at *
          go_upto_if 55 with fail
          go_cut [7] from 55 to 64 (fun k wx => ∃ (kb : Bool) (L' B' : Nat), k = .bool kb ∧ Blk wx (w.heap.size + 1 + 1) 80 #[.int .u8 0, .int .i64 L', .int .i64 B'] ∧ (kb = true → 3 ≤ L2 ∧ L2 < L' ∧ a + 1 < s.size ∧ CpOk s (a + 1) L' B') ∧ w4.grownBy wx (some (w.heap.size + 1 + 1)))
          case first =>
            cases look with
            | false =>
              go_wp2_with fail
              go_meet
              case rel => exact ⟨false, L, B, rfl, HN4.out, (fun h => by cases h), grown_refl _ _⟩
            | true =>
              obtain ⟨p1, p2, p3⟩ : 0 < L2 ∧ 4 ≤ l ∧ a + 1 < s.size := by
                have := HLK.out
                simp at this
                omega
              have HB := Lib.hid (best_all _ _ _ s dv (a + 1) (a + 1) av4 D4 ah4 w4 HF4.out (by omega) p3 (Nat.le_refl _) hd1 hd2)
              go_wp2_with fail
              refine HB.out.mono ?_
              rintro e w5 ⟨⟨L', B', rfl, c1, c2, _⟩, hb5⟩
              have hN5 := HN4.out.below hb5 HN4.out.lt
              have hT5 := HT4.out.below hb5 HT4.out.lt
              have n0 := hN5.cell 0
              have n1 := hN5.cell 1
              have n2 := hN5.cell 2
              have m0 := hN5.frozen 0
              have m1 := hN5.frozen 1
              have m2 := hN5.frozen 2
              have d1 := hT5.cell 1
              simp at n0 n1 n2 d1
              have HC := Lib.hid (And.intro c1 c2); clear c1 c2
              have HN5 := Lib.hid hN5; clear hN5
              have HT5 := Lib.hid hT5; clear hT5
              go_wp2_with fail
              go_meet
              case rel =>
                refine ⟨decide (L2 < L'), L', B', ?_, ((HN5.out.put 0 _).put 1 _).put 2 _, fun h => ?_, grown_put (grown_put (grown_put (grown_below hb5) 0 _) 1 _) 2 _⟩
                · exact congrArg Value.bool (decide_eq_decide.2 (by omega))
                · have h := of_decide_eq_true h
                  refine ⟨?_, h, p3, HC.out.1⟩
                  rcases HT.out.big with h0 | h0
                  · omega
                  · exact h0
          case rest =>
            obtain ⟨kb, L', B', rfl, hN5, hkb, hg5⟩ := hcut
            have hT5 := HT4.out.grown hg5 (by simpa using htn)
            have hF5 := HF4.out.grown hg5 HN4.out (by decide) (by decide)
            have hO5 := HO4.out.kept hg5 (.inr hsep.symm)
            have hbel5 := below_grown hbel4 hg5 (by omega) hsz4
            have hsz5 := hbel5.size
            obtain ⟨lit, hlit⟩ : ∃ x : Bool, x = (decide (L2 = 0) || kb) := ⟨_, rfl⟩
            have HLIT := Lib.hid hlit; clear hlit
            have d1 := hT5.cell 1
            simp at d1
            clear HF4 HN4 HO4 HT4 HLK hg5 hbel4 hsz4
            have HF5 := Lib.hid hF5; clear hF5
            have HN5 := Lib.hid hN5; clear hN5
            have HO5 := Lib.hid hO5; clear hO5
            have HT5 := Lib.hid hT5; clear hT5
            have HKB := Lib.hid hkb; clear hkb
            go_upto_region 17 with fail
            go_cut [70] from 65 to 70 (fun v wx => v = .bool lit ∧ wx = wc)
            case first =>
              by_cases hL : L2 = 0
              · have q : ((L2 : Int) == 0) = true := by rw [beq_iff_eq]; omega
                have HV := Lib.hid (show lit = true by rw [HLIT.out, decide_eq_true hL]; rfl)
                clear hL
                go_wp2_with fail
                go_meet
                case rel => exact ⟨by rw [HV.out], rfl⟩
              · have q : ((L2 : Int) == 0) = false := by rw [beq_eq_false_iff_ne]; omega
                have HV := Lib.hid (show lit = kb by rw [HLIT.out, decide_eq_false hL]; rfl)
                clear hL
                go_wp2_with fail
                go_meet
                case rel => exact ⟨by rw [HV.out], rfl⟩
            case rest =>
              obtain ⟨rfl, rfl⟩ := hcut
              generalize wc = w5 at *
              cases lit with
              | true =>
                have hnew : MInv s (a + 1) (ts ++ [litT s[a]]) kb := by
                  refine HINV.out.lit hlt hs fun hA => ?_
                  cases kb with
                  | true =>
                    obtain ⟨q1, q2, q3, q4⟩ := HKB.out rfl
                    exact absurd hA (HT.out.look q3 q1 q4 q2)
                  | false =>
                    have h0 : L2 = 0 := by
                      have := HLIT.out
                      simpa using this
                    subst h0
                    exact ⟨rfl, HT.out.none hlt hA⟩
                have hnext : kb = true → TOk s (a + 1) L' B' ∧ 3 ≤ L' := fun hk => by
                  subst hk
                  obtain ⟨q1, q2, q3, q4⟩ := HKB.out rfl
                  exact ⟨TOk.next hnew q4 (by omega), by omega⟩
                have hrs : rowT (ts ++ [litT s[a]]) = rowT ts ++ [.int .u8 (s[a].toNat : Int), .int .i64 0, .int .i64 0] := rowT_snoc _ _
                have hla : (ts ++ [litT s[a]]).length = ts.length + 1 := by simp
                have hl6 : ts.length + 1 ≤ 1000000 := by have := HINV.out.len; omega
                have HRS := Lib.hid hrs; clear hrs
                have HNEW := Lib.hid hnew; clear hnew
                have HNX := Lib.hid hnext; clear hnext
                have HLA := Lib.hid hla; clear hla
                clear HLIT HKB HT
                go_wp2_with (refine wpList_app rfl _ _ 69 rfl w.heap.size 80 (.agg #[.int .u8 0, .int .i64 0, .int .i64 0]) 3 24 Try.underlying69 info_tk rfl (by omega) u4 ts.length (rowT ts) (by simp [Act.eval, Act.put]) (own_kept HO5.out ((Below.refl _ _).alloc (Nat.le_refl _) _)) w5.heap.size 1 _ _ (by simp [Act.eval, Act.put]) (Blk.new _ _ _) rfl (by simp [Value.oneCell']) hl6 (by omega) (by simp; omega) _ rfl ?_; intro g2 cap2 w6 ho6 hg6 hat6 hlt6)
                have hw6 : Below w.heap.size w w6 := own_below HO5.out (hbel5.alloc hsz5 _) hg6 (Nat.le_refl _) (by simp; omega)
                have hN6 := (HN5.out.alloc (Obj.cells #[.int .u8 (s[a].toNat : Int), .int .i64 0, .int .i64 0] 80)).grown hg6 hsep
                have hO6 := own_kept HO5.out ((Below.refl w5.heap.size w5).alloc (Nat.le_refl _) (Obj.cells #[.int .u8 (s[a].toNat : Int), .int .i64 0, .int .i64 0] 80))
                have hF6 := (HF5.out.below ((Below.refl w5.heap.size w5).alloc (Nat.le_refl _) (Obj.cells #[.int .u8 (s[a].toNat : Int), .int .i64 0, .int .i64 0] 80))).app hO6 hg6 (by decide) (by decide)
                have hnlt5 := HN5.out.lt
                go_roundw
                case rel =>
                  refine ⟨kb, a + 1, _, _, _, _, _, _, rfl, by go_num, hF6, hN6, HNEW.out, HNX.out, ?_, hw6, ?_⟩
                  · rw [HLA.out, HRS.out]; exact ho6
                  · show some (w.heap.size + 1 + 1) ≠ some g2
                    intro e
                    injection e with e
                    rcases hat6 with h6 | h6
                    · exact hsep (by rw [h6, e])
                    · simp at h6; omega
                case measure => simp [intOf]; omega
              | false =>
                obtain ⟨hL3, rfl⟩ : 3 ≤ L2 ∧ kb = false := by
                  have := HLIT.out
                  simp at this
                  refine ⟨?_, this.2⟩
                  rcases HT.out.big with h0 | h0
                  · omega
                  · exact h0
                have hnew := HINV.out.copy hs HT.out hL3
                have haL := hnew.lens
                have hrs : rowT (ts ++ [⟨0, L2, B2⟩]) = rowT ts ++ [.int .u8 0, .int .i64 L2, .int .i64 B2] := rowT_snoc _ _
                have hla : (ts ++ [(⟨0, L2, B2⟩ : Tk)]).length = ts.length + 1 := by simp
                have hl6 : ts.length + 1 ≤ 1000000 := by have := HINV.out.len; omega
                have HRS := Lib.hid hrs; clear hrs
                have HNEW := Lib.hid hnew; clear hnew
                have HLA := Lib.hid hla; clear hla
                clear HLIT HKB HT
                go_wp2_with fail
                go_loopw [10] (fun kv wr2 => ∃ (m : Nat) (av : Value) (D : DataW Unit) (ah : List Int), a + 1 ≤ m ∧ m ≤ a + L2 ∧ kv = .int .i64 m ∧ Fd wr2 w.heap.size (w.heap.size + 1) w.heap.size s (.int .i64 dv) m av D ah ∧ Blk wr2 tb 80 #[.int .u8 0, .int .i64 L2, .int .i64 B2] ∧ Blk wr2 (w.heap.size + 1 + 1) 80 #[.int .u8 0, .int .i64 L', .int .i64 B'] ∧ wr2.ownsRow w.heap.size 80 3 u4 ts.length (rowT ts) ∧ Below w.heap.size w wr2) (fun kv _ => a + L2 - (intOf kv).toNat)
                case atStart => exact ⟨a + 1, _, _, _, Nat.le_refl _, by omega, by go_num, HF5.out, HT5.out, HN5.out, HO5.out, hbel5⟩
                case round =>
                  obtain ⟨m, av, D, ah, hm1, hm2, rfl, hF6, hT6, hN6, hO6, hbel6⟩ := hrel
                  have hsz6 := hbel6.size
                  have d1 := hT6.cell 1
                  simp at d1
                  by_cases hml : m < a + L2
                  · have HP := Lib.hid (put_all _ _ _ s (.int .i64 dv) m av D ah wr hF6 hs (by omega) (by omega))
                    have HF6 := Lib.hid hF6; clear hF6
                    have HT6 := Lib.hid hT6; clear hT6
                    have HN6 := Lib.hid hN6; clear hN6
                    have HO6 := Lib.hid hO6; clear hO6
                    go_wp2_with fail
                    refine HP.out.mono ?_
                    rintro e w7 ⟨⟨r, rfl⟩, ⟨av7, D7, ah7, hF7⟩, hk7⟩
                    have hT7 := hk7.blk HF6.out HT6.out (by decide) (by decide)
                    have hN7 := hk7.blk HF6.out HN6.out (by decide) (by decide)
                    have hO7 := hk7.row HF6.out HO6.out (by decide) (by decide)
                    have hbel7 := keep3_below hk7 hbel6 (by omega) (by omega) (Nat.le_refl _) (fun k hk => ((HF6.out.row).lt k hk).1)
                    clear HP HF6 HT6 HN6 HO6 hk7
                    have HF7 := Lib.hid hF7; clear hF7
                    have HT7 := Lib.hid hT7; clear hT7
                    have HN7 := Lib.hid hN7; clear hN7
                    have HO7 := Lib.hid hO7; clear hO7
                    go_wp2_with fail
                    go_roundw
                    case rel => exact ⟨m + 1, av7, D7, ah7, by omega, by omega, by go_num, HF7.out, HT7.out, HN7.out, HO7.out, hbel7⟩
                    case measure => simp [intOf]; omega
                  · obtain rfl : m = a + L2 := by omega
                    have d0 := hT6.cell 0
                    have d2 := hT6.cell 2
                    simp at d0 d2
                    have HF6 := Lib.hid hF6; clear hF6
                    have HT6 := Lib.hid hT6; clear hT6
                    have HN6 := Lib.hid hN6; clear hN6
                    have HO6 := Lib.hid hO6; clear hO6
                    clear HF5 HT5 HN5 HO5
                    go_wp2_with (refine wpList_app rfl _ _ 69 rfl w.heap.size 80 (.agg #[.int .u8 0, .int .i64 0, .int .i64 0]) 3 24 Try.underlying69 info_tk rfl (by omega) u4 ts.length (rowT ts) (by simp [Act.eval, Act.put]) (own_kept HO6.out ((Below.refl _ _).alloc (Nat.le_refl _) _)) wr.heap.size 1 _ _ (by simp [Act.eval, Act.put]) (Blk.new _ _ _) rfl (by simp [Value.oneCell']) hl6 (by omega) (by simp; omega) _ rfl ?_; intro g2 cap2 w7 ho7 hg7 hat7 hlt7; have hT7 := (HT6.out.alloc (Obj.cells #[.int .u8 0, .int .i64 L2, .int .i64 B2] 80)).grown hg7 hoT; have d1 := hT7.cell 1; simp at d1)
                    have hw7 : Below w.heap.size w w7 := own_below HO6.out (hbel6.alloc hsz6 _) hg7 (Nat.le_refl _) (by simp; omega)
                    have hN7 := (HN6.out.alloc (Obj.cells #[.int .u8 0, .int .i64 L2, .int .i64 B2] 80)).grown hg7 hsep
                    have hO7 := own_kept HO6.out ((Below.refl wr.heap.size wr).alloc (Nat.le_refl _) (Obj.cells #[.int .u8 0, .int .i64 L2, .int .i64 B2] 80))
                    have hF7 := (HF6.out.below ((Below.refl wr.heap.size wr).alloc (Nat.le_refl _) (Obj.cells #[.int .u8 0, .int .i64 L2, .int .i64 B2] 80))).app hO7 hg7 (by decide) (by decide)
                    have hnlt6 := HN6.out.lt
                    go_roundw
                    case rel =>
                      refine ⟨false, a + L2, _, _, _, _, _, _, rfl, by go_num, hF7, hN7, HNEW.out, fun h => (by cases h), ?_, hw7, ?_⟩
                      · rw [HLA.out, HRS.out]; exact ho7
                      · show some (w.heap.size + 1 + 1) ≠ some g2
                        intro e
                        injection e with e
                        rcases hat7 with h6 | h6
                        · exact hsep (by rw [h6, e])
                        · simp at h6; omega
                    case measure => simp [intOf]; omega
    · obtain rfl : a = s.size := by have := hst.inv.lens; omega
      have HF := Lib.hid (show ∃ v ts kn, Ending.returned u4 = .returned v ∧ wr.ownsRow w.heap.size 80 3 v ts.length (rowT ts) ∧ MInv s s.size ts kn ∧ Below w.heap.size w wr from ⟨_, _, _, rfl, hst.out, hst.inv, hst.bel⟩)
      clear hst
      go_wp2_with fail
      go_ret
      exact HF.out
end Go.Proofs.Ythmlfeaoaanmoaa
