/- The contract of lz's put. -/
import Derived.Test.YthmlfeaoaanmoaaLzPut
import Derived.Deep.CutBlock
set_option linter.unusedVariables false
set_option linter.unusedSimpArgs false
namespace Go.Proofs.Ythmlfeaoaanmoaa
open Go Go.RowKit Go.Maps
open Sw
/-- nothing has turned but three blocks -/
structure Keep3 (w w' : World) (g b : Nat) (av : Value) : Prop where
  os : w'.os = w.os
  tape : w'.tape = w.tape
  output : w'.output = w.output
  size : w.heap.size ≤ w'.heap.size
  block : ∀ k, k < w.heap.size → k ≠ g → k ≠ b → some k ≠ av.ownBlock → w'.heap[k]? = w.heap[k]?
theorem keep3_below {w w' : World} {g b : Nat} {av : Value} {B : Nat} {a : World} (h : Keep3 w w' g b av) (hb : Below B a w) (hB : B ≤ w.heap.size) (hg : B ≤ g) (hbb : B ≤ b) (hav : ∀ k, av.ownBlock = some k → B ≤ k) : Below B a w' :=
  ⟨h.os.trans hb.os, h.tape.trans hb.tape, h.output.trans hb.output, Nat.le_trans hb.size h.size, fun k hk => by
    rw [h.block k (Nat.lt_of_lt_of_le hk hB) (by omega) (by omega) (fun e => by have := hav k e.symm; omega)]
    exact hb.block k hk⟩
theorem own_blk_ne {w : World} {base : Nat} {e : TypeId} {size n : Nat} {v : Value} {xs : List Value} {g : Nat} {t : TypeId} {cs : Array Value} (h : w.ownsRow base e size v n xs) (hg : Blk w g t cs) (hne : e ≠ t) : some g ≠ v.ownBlock := by
  rcases h.2 with ⟨rfl, _⟩ | ⟨g', cap, cur, rfl, _, hh, _⟩
  · simp [Value.ownBlock]
  · intro he
    have : g = g' := by simpa [Value.ownBlock] using he
    subst this
    exact Blk.other (t := e) hh hg hne rfl
theorem own_map_ne {w : World} {base : Nat} {e : TypeId} {size n : Nat} {v : Value} {xs : List Value} {b m : Nat} {P : Program} {k : TypeId} {R : Value → Option (DataW Unit × List MemPlace)} {D : DataW Unit} (h : w.ownsRow base e size v n xs) (hm : w.ownsMap P k R b m D) : some b ≠ v.ownBlock := by
  obtain ⟨es, clock, hb, _⟩ := hm
  rcases h.2 with ⟨rfl, _⟩ | ⟨g', cap, cur, rfl, _, hh, _⟩
  · simp [Value.ownBlock]
  · intro he
    have : b = g' := by simpa [Value.ownBlock] using he
    subst this
    rw [hb] at hh
    cases hh
theorem blk_map_ne {w : World} {g b m : Nat} {t : TypeId} {cs : Array Value} {P : Program} {k : TypeId} {R : Value → Option (DataW Unit × List MemPlace)} {D : DataW Unit} (h : Blk w g t cs) (hm : w.ownsMap P k R b m D) : g ≠ b := by
  obtain ⟨es, clock, hb, _⟩ := hm
  rintro rfl
  unfold Blk at h
  rw [hb] at h
  cases h
set_option maxRecDepth 100000 in
set_option maxHeartbeats 8000000 in
theorem put_long (base g b : Nat) (s : ByteArray) (dp : Value) (m : Nat) (av : Value) (D : DataW Unit) (ah : List Int) (w : World) (h : Fd w base g b s dp m av D ah) (hs : s.size ≤ 1000000) (h0 : m < s.size) (h1 : m + 1 < s.size) (h2 : m + 2 < s.size) (hbw : base ≤ w.heap.size) :
    Calls Try.prog 63 #[.pointer (some ⟨g, 0, none⟩), .int .i64 m] w fun e w' => (∃ r, e = .returned r) ∧ (∃ av' D' ah', Fd w' base g b s dp (m + 1) av' D' ah') ∧ Keep3 w w' g b av := by
  have hK := fun W hg => key_any W g m s hs h0 h1 h2 hg
  obtain ⟨c, hc, hlk⟩ := look_three h.own s[m] s[m + 1] s[m + 2]
  have hput := h.ok.put h0 h1 h2
  have hvals := h.ok.vals (keyL s[m] s[m + 1] s[m + 2]) c
  have hkk := keyOf_three s[m] s[m + 1] s[m + 2]
  generalize hkl : keyL s[m] s[m + 1] s[m + 2] = kl at *
  generalize s[m] = x0 at *
  generalize s[m + 1] = x1 at *
  generalize s[m + 2] = x2 at *
  clear hkl
  generalize hhb : Maps.has D kl = hb at *
  have hcv : hb = true → 0 ≤ c ∧ c < m := fun he => hvals he hc
  clear hvals
  have c0 := h.blk.cell 0
  simp at c0
  have HK := Lib.hid (hK w c0); clear hK
  have HLK := Lib.hid hlk; clear hlk
  have HPUT := Lib.hid hput; clear hput
  have HKK := Lib.hid hkk; clear hkk
  have HC := Lib.hid hc; clear hc
  have HH := Lib.hid h; clear h
  clear hhb
  have hd : ¬ (s.size : Int) < (m : Int) + 3 := by omega
  unfold keyC at HK HLK
  go_enter Try.func63, Try.ntmps63
  go_wp2_with fail
  refine HK.out.mono ?_
  rintro e w1 ⟨rfl, hb1⟩
  have hglt := HH.out.blk.lt
  have hF := (HH.out.blk.below hb1 hglt).alloc (Obj.cells #[.int .u8 (x0.toNat : Int), .int .u8 (x1.toNat : Int), .int .u8 (x2.toNat : Int)] 124)
  have hM := (HH.out.own.kept (grown_below (row := none) hb1) (by simp)).kept (grown_alloc (grown_refl w1 none) (Obj.cells #[.int .u8 (x0.toNat : Int), .int .u8 (x1.toNat : Int), .int .u8 (x2.toNat : Int)] 124)) (by simp)
  have hR := (own_kept HH.out.row hb1).alloc (Obj.cells #[.int .u8 (x0.toNat : Int), .int .u8 (x1.toNat : Int), .int .u8 (x2.toNat : Int)] 124)
  have hb2 : Below w.heap.size w (w1.alloc (Obj.cells #[.int .u8 (x0.toNat : Int), .int .u8 (x1.toNat : Int), .int .u8 (x2.toNat : Int)] 124)) := hb1.alloc hb1.size _
  have hk3 := Blk.new w1 124 #[.int .u8 (x0.toNat : Int), .int .u8 (x1.toNat : Int), .int .u8 (x2.toNat : Int)]
  have hlk2 := fun n => HLK.out ((w1.alloc (Obj.cells #[.int .u8 (x0.toNat : Int), .int .u8 (x1.toNat : Int), .int .u8 (x2.toNat : Int)] 124)).drewN n) hM
  have HM := Lib.hid hM; clear hM
  have HR := Lib.hid hR; clear hR
  have hgk : g ≠ w1.heap.size := by have := hb1.size; omega
  have f0 := hF.cell 0
  have f1 := hF.cell 1
  have f2 := hF.cell 2
  simp at f0 f1 f2
  have HF := Lib.hid hF; clear hF
  have HK3 := Lib.hid hk3; clear hk3
  go_wp2_with fail
  obtain ⟨wv, hwv⟩ : ∃ wv : Int, wv = if hb = true then c else -1 := ⟨_, rfl⟩
  have hwb : -1 ≤ wv ∧ wv < m := by
    cases hb with
    | true => have := hcv rfl; rw [hwv, if_pos rfl]; omega
    | false => rw [hwv, if_neg (by simp)]; omega
  have hm6 : m + 1 ≤ 1000000 := by omega
  have hga : some g ≠ av.ownBlock := own_blk_ne HH.out.row HH.out.blk (by decide)
  have hba : some b ≠ av.ownBlock := own_map_ne HH.out.row HH.out.own
  have hgb : g ≠ b := blk_map_ne HH.out.blk HH.out.own
  have hka : some w1.heap.size ≠ av.ownBlock := fun h => by
    have := (HH.out.row.lt _ h.symm).2
    have := hb1.size
    omega
  have hbase2 : base ≤ w1.heap.size := Nat.le_trans hbw hb1.size
  obtain ⟨v, hv⟩ : ∃ v : Int, v = wv := ⟨_, rfl⟩
  have HV := Lib.hid hv; clear hv
  cases hb
  all_goals
    simp at hwv
    subst hwv
    go_quiet (fail)
    have HR2 : Hid (((w1.alloc (Obj.cells #[.int .u8 (x0.toNat : Int), .int .u8 (x1.toNat : Int), .int .u8 (x2.toNat : Int)] 124)).drewN nq).ownsRow base 3 1 av m (rowZ ah)) := HR.out
    have HM2 : Hid (((w1.alloc (Obj.cells #[.int .u8 (x0.toNat : Int), .int .u8 (x1.toNat : Int), .int .u8 (x2.toNat : Int)] 124)).drewN nq).ownsMap Try.prog 124 (plainElem Try.prog 3) b m D) := HM.out
    have HF2 : Hid (Blk ((w1.alloc (Obj.cells #[.int .u8 (x0.toNat : Int), .int .u8 (x1.toNat : Int), .int .u8 (x2.toNat : Int)] 124)).drewN nq) g 105 #[.string s, .map (some b), av, dp]) := HF.out
    have HK2 : Hid (Blk ((w1.alloc (Obj.cells #[.int .u8 (x0.toNat : Int), .int .u8 (x1.toNat : Int), .int .u8 (x2.toNat : Int)] 124)).drewN nq) w1.heap.size 124 #[.int .u8 (x0.toNat : Int), .int .u8 (x1.toNat : Int), .int .u8 (x2.toNat : Int)]) := HK3.out
    have hB2 : Below w.heap.size w ((w1.alloc (Obj.cells #[.int .u8 (x0.toNat : Int), .int .u8 (x1.toNat : Int), .int .u8 (x2.toNat : Int)] 124)).drewN nq) := below_drewN hb2 nq
    have F0 : ((w1.alloc (Obj.cells #[.int .u8 (x0.toNat : Int), .int .u8 (x1.toNat : Int), .int .u8 (x2.toNat : Int)] 124)).drewN nq).cell? ⟨g, 0, none⟩ = some (.string s) := f0
    have F1 : ((w1.alloc (Obj.cells #[.int .u8 (x0.toNat : Int), .int .u8 (x1.toNat : Int), .int .u8 (x2.toNat : Int)] 124)).drewN nq).cell? ⟨g, 1, none⟩ = some (.map (some b)) := f1
    have F2 : ((w1.alloc (Obj.cells #[.int .u8 (x0.toNat : Int), .int .u8 (x1.toNat : Int), .int .u8 (x2.toNat : Int)] 124)).drewN nq).cell? ⟨g, 2, none⟩ = some av := f2
    have hsz2 : ((w1.alloc (Obj.cells #[.int .u8 (x0.toNat : Int), .int .u8 (x1.toNat : Int), .int .u8 (x2.toNat : Int)] 124)).drewN nq).heap.size = w1.heap.size + 1 := by simp
    clear f0 f1 f2 HR HM HF HK3 hb2 hlk2
    generalize (w1.alloc (Obj.cells #[.int .u8 (x0.toNat : Int), .int .u8 (x1.toNat : Int), .int .u8 (x2.toNat : Int)] 124)).drewN nq = w2 at *
    generalize w1.heap.size = kb at *
    have HSZ := Lib.hid hsz2; clear hsz2
    have hb2s : base ≤ w2.heap.size := by have := HSZ.out; omega
    go_wp2_with (refine wpList_app rfl _ _ 48 rfl base 3 (.int .i64 0) 1 8 Try.underlying48 info_z rfl (by omega) av m (rowZ ah) (by simp [Act.eval, Act.put]) (HR2.out.alloc _) w2.heap.size 1 _ _ (by simp [Act.eval, Act.put]) (Blk.new _ _ _) rfl (by simp [Value.oneCell']) hm6 (by omega) (by simp; omega) _ rfl ?_; intro g2 cap2 w5 ho2 hg2 hat2 hlt2; have hF5 := (HF2.out.alloc _).grown hg2 hga; have t1 := hF5.cell 1; have t2 := hF5.cell 2; have tf := hF5.frozen 2; simp at t1 t2; have hK5 := (HK2.out.alloc _).grown hg2 hka; have hM5 := (HM2.out.kept (grown_alloc (grown_refl w2 none) _) (by simp)).kept hg2 hba)
    have hF6 := hF5.put 2 (.slice (some ⟨g2, 0, none⟩) (m + 1) cap2)
    have hgk : g ≠ kb := Blk.other hF5 hK5 (by decide)
    have hK6 := hK5.far (p := ⟨g, 2, none⟩) (fun h => hgk h.symm) (.slice (some ⟨g2, 0, none⟩) (m + 1) cap2)
    have hM6 := hM5.kept (grown_put (grown_refl w5 (some g)) 2 (.slice (some ⟨g2, 0, none⟩) (m + 1) cap2)) (by simp; omega)
    have hwf : (Lit.int .i64 (m : Int)).wf = true := by simp [Lit.wf, IntKind.min, IntKind.max, IntKind.bits, IntKind.signed]; omega
    obtain ⟨w7, hrun, hown7, hgr7⟩ := hM6.drew.update three_keyed Try.underlying103 (by unfold maxLen; omega) HKK.out (plainElem_int Try.underlying3 hwf)
    have hrow6 := (ho2.kept (grown_put (grown_refl w5 (some g)) 2 (.slice (some ⟨g2, 0, none⟩) (m + 1) cap2)) (.inr (own_blk_ne ho2 hF5 (by decide)).symm)).drew
    have hblk7 := hF6.drew.grown hgr7 (by simp; omega)
    have hrow7 := hrow6.kept hgr7 (.inr (own_map_ne hrow6 hM6.drew).symm)
    have hkeep : Keep3 w w7 g b av := ⟨hgr7.os.trans (hg2.os.trans hB2.os), hgr7.tape.trans (hg2.tape.trans hB2.tape), hgr7.output.trans (hg2.output.trans hB2.output), by
      have h1 := hgr7.size
      have h2 := hg2.size
      have h3 := hB2.size
      simp [World.setCell] at h1 h2
      omega, fun k hk hkg hkb hka => by
        have hk2 := Nat.lt_of_lt_of_le hk hB2.size
        have hk3 := Nat.lt_of_lt_of_le hk2 (show w2.heap.size ≤ w5.heap.size by have := hg2.size; simp at this; omega)
        rw [hgr7.block k (by simpa [World.setCell] using hk3) (by simp; omega)]
        refine (Below.heap_setCell w5 ⟨g, 2, none⟩ _ k (by simpa using hkg)).trans ?_
        rw [hg2.block k (by simp; omega) hka]
        exact (Below.heap_alloc w2 _ k hk2).trans (hB2.block k hk)⟩
    have G1 := hF6.cell 1
    have K0 := hK6.cell 0
    have K1 := hK6.cell 1
    have K2 := hK6.cell 2
    simp at G1 K0 K1 K2
    unfold keyC at hrun
    have HROW := Lib.hid hrow7; clear hrow7 hrow6
    have HBLK := Lib.hid hblk7; clear hblk7
    have HOWN7 := Lib.hid hown7; clear hown7
    have HKEEP := Lib.hid hkeep; clear hkeep
    have HLOW := Lib.hid HH.out.low
    clear hF5 hF6 hK5 hK6 hM5 hM6 t1 t2 tf F0 F1 F2 hg2 hgr7 hat2 ho2
    generalize w5.setCell ⟨g, 2, none⟩ (.slice (some ⟨g2, 0, none⟩) (m + 1) cap2) = w6 at *
    go_region
    go_wp2_with fail
    go_end0
    refine ⟨⟨_, rfl⟩, ⟨_, _, ah ++ [v], HBLK.out, HOWN7.out, ?_, HPUT.out, ?_, HH.out.gb, HH.out.bb⟩, HKEEP.out⟩
    · rw [rowZ_snoc, HV.out]; exact HROW.out
    · intro p hp
      have hlen : ah.length = m := by
        have := HH.out.row.1
        simpa [rowZ] using this
      rw [List.length_append, List.length_singleton] at hp
      by_cases hpl : p < ah.length
      · rw [List.getElem_append_left hpl]; exact HLOW.out p hpl
      · rw [List.getElem_append_right (by omega)]
        have := HV.out
        simp
        omega
set_option maxRecDepth 100000 in
set_option maxHeartbeats 8000000 in
theorem put_end (base g b : Nat) (s : ByteArray) (dp : Value) (m : Nat) (av : Value) (D : DataW Unit) (ah : List Int) (w : World) (h : Fd w base g b s dp m av D ah) (hs : s.size ≤ 1000000) (hm : m ≤ 900000) (h2 : s.size < m + 3) (hbw : base ≤ w.heap.size) :
    Calls Try.prog 63 #[.pointer (some ⟨g, 0, none⟩), .int .i64 m] w fun e w' => (∃ r, e = .returned r) ∧ (∃ av' D' ah', Fd w' base g b s dp (m + 1) av' D' ah') ∧ Keep3 w w' g b av := by
  have hput := h.ok.short h2
  have c0 := h.blk.cell 0
  have c2 := h.blk.cell 2
  have f2 := h.blk.frozen 2
  simp at c0 c2
  have hga : some g ≠ av.ownBlock := own_blk_ne h.row h.blk (by decide)
  have hba : some b ≠ av.ownBlock := own_map_ne h.row h.own
  have hgb : g ≠ b := blk_map_ne h.blk h.own
  have hglt := h.blk.lt
  have HPUT := Lib.hid hput; clear hput
  have HH := Lib.hid h; clear h
  have hd : (s.size : Int) < (m : Int) + 3 := by omega
  have hm6 : m + 1 ≤ 1000000 := by omega
  go_enter Try.func63, Try.ntmps63
  go_wp2_with (refine wpList_app rfl _ _ 48 rfl base 3 (.int .i64 0) 1 8 Try.underlying48 info_z rfl (by omega) av m (rowZ ah) (by simp [Act.eval, Act.put]) (HH.out.row.alloc _) w.heap.size 1 _ _ (by simp [Act.eval, Act.put]) (Blk.new _ _ _) rfl (by simp [Value.oneCell']) hm6 (by omega) (by simp; omega) _ rfl ?_; intro g2 cap2 w5 ho2 hg2 hat2 hlt2; have hF5 := (HH.out.blk.alloc _).grown hg2 hga; have t2 := hF5.cell 2; have tf := hF5.frozen 2; simp at t2; have hM5 := (HH.out.own.kept (grown_alloc (grown_refl w none) _) (by simp)).kept hg2 hba)
  have hF6 := hF5.put 2 (.slice (some ⟨g2, 0, none⟩) (m + 1) cap2)
  have hM6 := (hM5.kept (grown_put (grown_refl w5 (some g)) 2 (.slice (some ⟨g2, 0, none⟩) (m + 1) cap2)) (by simp; omega)).mono (Nat.le_succ m)
  have hrow6 := ho2.kept (grown_put (grown_refl w5 (some g)) 2 (.slice (some ⟨g2, 0, none⟩) (m + 1) cap2)) (.inr (own_blk_ne ho2 hF5 (by decide)).symm)
  have hkeep : Keep3 w (w5.setCell ⟨g, 2, none⟩ (.slice (some ⟨g2, 0, none⟩) (m + 1) cap2)) g b av := ⟨hg2.os, hg2.tape, hg2.output, by
    have h2 := hg2.size
    simp [World.setCell] at h2 ⊢
    omega, fun k hk hkg hkb hka => by
      refine (Below.heap_setCell w5 ⟨g, 2, none⟩ _ k (by simpa using hkg)).trans ?_
      rw [hg2.block k (by simp; omega) hka]
      exact Below.heap_alloc w _ k hk⟩
  refine bodyPost_ret (results_none rfl _ _ _) rfl ⟨⟨_, rfl⟩, ⟨_, _, ah ++ [-1], hF6, hM6, ?_, HPUT.out, ?_, HH.out.gb, HH.out.bb⟩, hkeep⟩
  · rw [rowZ_snoc]; exact hrow6
  · intro p hp
    have hlen : ah.length = m := by
      have := HH.out.row.1
      simpa [rowZ] using this
    rw [List.length_append, List.length_singleton] at hp
    by_cases hpl : p < ah.length
    · rw [List.getElem_append_left hpl]; exact HH.out.low p hpl
    · rw [List.getElem_append_right (by omega)]
      simp
      omega
end Go.Proofs.Ythmlfeaoaanmoaa
