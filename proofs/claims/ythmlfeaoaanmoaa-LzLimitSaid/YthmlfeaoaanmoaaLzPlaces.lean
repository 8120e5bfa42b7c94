/- lz's places, in general. -/
import Derived.Test.YthmlfeaoaanmoaaLzPutB
import Derived.Test.YthmlfeaoaanmoaaLzShort
set_option linter.unusedVariables false
set_option linter.unusedSimpArgs false
namespace Go.Proofs.Ythmlfeaoaanmoaa
open Go Go.RowKit Go.Shelf Go.Maps
open Sw
attribute [local go_sem] Oper.semAt_some
/-- a place that may be told -/
abbrev Plc (m a : Nat) := { p : Int // 0 ≤ p ∧ p < m ∧ (a : Int) - p ≤ 32768 }
/-- below n₀ nothing has turned but a block -/
structure Bx (n₀ tb : Nat) (A B : World) : Prop where
  os : B.os = A.os
  tape : B.tape = A.tape
  output : B.output = A.output
  size : A.heap.size ≤ B.heap.size
  block : ∀ k, k < n₀ → k ≠ tb → B.heap[k]? = A.heap[k]?
theorem Bx.of {n₀ : Nat} (tb : Nat) {A B : World} (h : Below n₀ A B) : Bx n₀ tb A B := ⟨h.os, h.tape, h.output, h.size, fun k hk _ => h.block k hk⟩
theorem Bx.trans {n₀ tb : Nat} {A B C : World} (h : Bx n₀ tb A B) (k : Bx n₀ tb B C) : Bx n₀ tb A C :=
  ⟨k.os.trans h.os, k.tape.trans h.tape, k.output.trans h.output, Nat.le_trans h.size k.size, fun i hi hn => (k.block i hi hn).trans (h.block i hi hn)⟩
theorem Bx.cell {n₀ tb : Nat} {A B : World} (h : Bx n₀ tb A B) {p : Addr} (hp : p.block < n₀) (hn : p.block ≠ tb) : B.cell? p = A.cell? p := World.cell?_of_block (w := A) (h.block p.block hp hn)
theorem Bx.blk {n₀ tb : Nat} {A B : World} (h : Bx n₀ tb A B) {g : Nat} {t : TypeId} {cs : Array Value} (hg : Blk A g t cs) (hp : g < n₀) (hn : g ≠ tb) : Blk B g t cs := (h.block g hp hn).trans hg
theorem bxK_b {n₀ tb : Nat} {w : World} (hn : n₀ ≤ w.heap.size) (W : World) (l : Nat) (o o' : Obj) (hl : w.heap.size ≤ l) (h : W.heap[l]? = some o) (h1 : o.isCells = false) (h2 : o.isWalk = false) : Bx n₀ tb W (W.putObj l o') := .of tb (belowK_b hn W l o o' hl h h1 h2)
set_option maxRecDepth 100000 in
set_option maxHeartbeats 4000000 in
theorem places_stops (n : Nat) (hn : 2 ≤ n) (tb ba bf base g b : Nat) (s : ByteArray) (dv : Int) (m a : Nat) (av : Value) (D : DataW Unit) (ah : List Int) (w : World) (h : Fd w base g b s (.int .i64 dv) m av D ah) (hs : s.size ≤ 1000000) (h0 : a < s.size) (h1 : a + 1 < s.size) (h2 : a + 2 < s.size) (hma : m ≤ a) (hd1 : 1 ≤ dv) (hd2 : dv ≤ 1024)
    (ha : w.cell? ⟨ba, 0, none⟩ = some (.int .i64 a)) (hf : w.cell? ⟨bf, 0, none⟩ = some (.pointer (some ⟨g, 0, none⟩))) (hba : ba < w.heap.size) (hbf : bf < w.heap.size) (hta : ba ≠ tb) (htf : bf ≠ tb) (htg : g ≠ tb) (htv : ∀ q, av.ownBlock = some q → q ≠ tb) (c : Int) (hc : D.atKey (keyL s[a] s[a + 1] s[a + 2]) (.lit (.int .i64 0)) = .lit (.int .i64 c)) :
    SeqStopsK Fence.wide n Try.prog 89 #[.pointer (some ⟨ba, 0, none⟩), .pointer (some ⟨bf, 0, none⟩)] (fun x : Plc m a => #[.int .i64 x.1]) (Bx w.heap.size tb) (fun xs => Maps.has D (keyL s[a] s[a + 1] s[a + 2]) = true → (a : Int) - c ≤ 32768 → (xs.map (·.1)).head? = some c) (fun _ => True) dv.toNat w := fun l J Jx W hW hJ hJx hY hJ0 => by
  have ka := (hW.cell (p := ⟨ba, 0, none⟩) hba).trans ha
  have kf := (hW.cell (p := ⟨bf, 0, none⟩) hbf).trans hf
  have hglt := h.blk.lt
  have hF := h.blk.below hW hglt
  have g0 := hF.cell 0
  have g1 := hF.cell 1
  have g2 := hF.cell 2
  have g3 := hF.cell 3
  simp at g0 g1 g2 g3
  obtain ⟨c', hc', hlk⟩ := look_three h.own s[a] s[a + 1] s[a + 2]
  have hcc : c' = c := by
    rw [hc] at hc'
    injection hc' with hc'
    injection hc' with _ hc'
    exact hc'.symm
  subst hcc
  have hvals := h.ok.vals (keyL s[a] s[a + 1] s[a + 2]) c'
  have hKY := key_any W.drew g a s hs h0 h1 h2 g0
  generalize keyL s[a] s[a + 1] s[a + 2] = kl at *
  generalize s[a] = x0 at *
  generalize s[a + 1] = x1 at *
  generalize s[a + 2] = x2 at *
  have hcv : Maps.has D kl = true → 0 ≤ c' ∧ c' < m := fun he => hvals he hc
  generalize Maps.has D kl = hb at *
  unfold keyC at hlk hKY
  have hMW := h.own.kept (grown_below (row := none) hW) (by simp)
  have HH := Lib.hid h; clear h
  have HLK := Lib.hid hlk; clear hlk
  have HKY := Lib.hid hKY; clear hKY
  have HMW := Lib.hid hMW; clear hMW
  have HCV := Lib.hid hcv; clear hcv hvals hc hc'
  have HJ := Lib.hid hJ; clear hJ
  have HY := Lib.hid hY; clear hY
  have HAF := Lib.hid (And.intro ha hf)
  clear ha hf hF hJx
  refine callsIn_of_wp Try.func89 rfl trivial ?_ rfl
  simp only [Try.ntmps89, List.size_toArray, List.length_cons, List.length_nil, Nat.reduceAdd, Nat.reduceSub, Array.replicate_succ, Array.replicate_zero, List.push_toArray, List.append_toArray, List.nil_append, List.cons_append]
  gi_wp2
  gi_region
  gi_wp2
  refine ⟨trivial, fun _ => by omega, ?_⟩
  refine (callsIn_wide.2 HKY.out).mono ?_
  rintro e W1 ⟨rfl, hbK⟩
  have hW1 : Below W.heap.size W W1 := ⟨hbK.os, hbK.tape, hbK.output, hbK.size, hbK.block⟩
  have hWW : w.heap.size ≤ W.heap.size := hW.size
  have hgW : g < W.heap.size := by omega
  have G0 := (hW1.cell (p := ⟨g, 0, none⟩) hgW).trans g0
  have G1 := (hW1.cell (p := ⟨g, 1, none⟩) hgW).trans g1
  have G2 := (hW1.cell (p := ⟨g, 2, none⟩) hgW).trans g2
  have G3 := (hW1.cell (p := ⟨g, 3, none⟩) hgW).trans g3
  have KF := (hW1.cell (p := ⟨bf, 0, none⟩) (by show bf < W.heap.size; omega)).trans kf
  have KA := (hW1.cell (p := ⟨ba, 0, none⟩) (by show ba < W.heap.size; omega)).trans ka
  have hk3 := Blk.new W1 124 #[.int .u8 (x0.toNat : Int), .int .u8 (x1.toNat : Int), .int .u8 (x2.toNat : Int)]
  have hng : g ≠ W1.heap.size := by have := hW1.size; omega
  have hnf : bf ≠ W1.heap.size := by have := hW1.size; omega
  have hna : ba ≠ W1.heap.size := by have := hW1.size; omega
  have hM2 := (HMW.out.kept (grown_below (row := none) hW1) (by simp)).kept (grown_alloc (grown_refl W1 none) (Obj.cells #[.int .u8 (x0.toNat : Int), .int .u8 (x1.toNat : Int), .int .u8 (x2.toNat : Int)] 124)) (by simp)
  have hlk2 := HLK.out _ hM2.drew
  have HM2 := Lib.hid hM2; clear hM2
  have hw2 : Below w.heap.size w (W1.alloc (Obj.cells #[.int .u8 (x0.toNat : Int), .int .u8 (x1.toNat : Int), .int .u8 (x2.toNat : Int)] 124)).drew := ((hW.trans (hW1.mono hWW)).alloc (by have := hW1.size; omega) _).drew
  have hJ2 : J [] (W1.alloc (Obj.cells #[.int .u8 (x0.toNat : Int), .int .u8 (x1.toNat : Int), .int .u8 (x2.toNat : Int)] 124)).drew := HJ.out [] W _ none hJ0 (grown_drew (grown_alloc (grown_below hW1) _)) (fun r h => by cases h)
  have HJ2 := Lib.hid hJ2; clear hJ2
  clear g0 g1 g2 g3 ka kf
  have hb12 : Below W1.heap.size W1 (W1.alloc (Obj.cells #[.int .u8 (x0.toNat : Int), .int .u8 (x1.toNat : Int), .int .u8 (x2.toNat : Int)] 124)) := (Below.refl _ _).alloc (Nat.le_refl _) _
  have hg1s : g < W1.heap.size := by have := hW1.size; omega
  have E0 := (hb12.cell (p := ⟨g, 0, none⟩) hg1s).trans G0
  have E1 := (hb12.cell (p := ⟨g, 1, none⟩) hg1s).trans G1
  have E2 := (hb12.cell (p := ⟨g, 2, none⟩) hg1s).trans G2
  have E3 := (hb12.cell (p := ⟨g, 3, none⟩) hg1s).trans G3
  have EF := (hb12.cell (p := ⟨bf, 0, none⟩) (by show bf < W1.heap.size; have := hW1.size; omega)).trans KF
  have EA := (hb12.cell (p := ⟨ba, 0, none⟩) (by show ba < W1.heap.size; have := hW1.size; omega)).trans KA
  have T0 := hk3.cell 0
  have T1 := hk3.cell 1
  have T2 := hk3.cell 2
  have T0' : (W1.alloc (Obj.cells #[.int .u8 (x0.toNat : Int), .int .u8 (x1.toNat : Int), .int .u8 (x2.toNat : Int)] 124)).cell? ⟨W1.heap.size, 0, none⟩ = some (.int .u8 (x0.toNat : Int)) := T0
  have T1' : (W1.alloc (Obj.cells #[.int .u8 (x0.toNat : Int), .int .u8 (x1.toNat : Int), .int .u8 (x2.toNat : Int)] 124)).cell? ⟨W1.heap.size, 1, none⟩ = some (.int .u8 (x1.toNat : Int)) := T1
  have T2' : (W1.alloc (Obj.cells #[.int .u8 (x0.toNat : Int), .int .u8 (x1.toNat : Int), .int .u8 (x2.toNat : Int)] 124)).cell? ⟨W1.heap.size, 2, none⟩ = some (.int .u8 (x2.toNat : Int)) := T2
  clear G0 G1 G2 G3 KF KA T0 T1 T2 hk3 hng hnf hna hb12
  gi_wp2
  generalize (W1.alloc (Obj.cells #[.int .u8 (x0.toNat : Int), .int .u8 (x1.toNat : Int), .int .u8 (x2.toNat : Int)] 124)) = w2 at *
  generalize W1.heap.size = kb at *
  gi_region
  cases hb with
  | false =>
    gi_wp2
    refine bodyPost_ret (results_none rfl _ _ _) rfl ?_
    exact ⟨⟨_, rfl⟩, .inl ⟨[], (fun h => by cases h), HJ2.out⟩⟩
  | true =>
    obtain ⟨hc0, hc1⟩ := HCV.out rfl
    obtain ⟨ga, cap, hav, _, hgalt⟩ := HH.out.row.form (show 0 < m by omega)
    have hga2 : ga < w.heap.size := (HH.out.row.lt ga (by rw [hav]; rfl)).2
    have hgt : ga ≠ tb := htv ga (by rw [hav]; rfl)
    have hcells : ∀ j (hj : j < ah.length), w.cell? ⟨ga, j, none⟩ = some (.int .i64 ah[j]) := fun j hj => by
      have := HH.out.row.cells (g := ga) (by rw [hav]; rfl) j (.int .i64 ah[j]) (by simp [rowZ, hj])
      rw [add_mk, Nat.zero_add] at this
      exact this
    have hlen : ah.length = m := by
      have := HH.out.row.1
      simpa [rowZ] using this
    subst hav
    have HCELLS := Lib.hid hcells; clear hcells
    have hgb2 : g < w.heap.size := hglt
    have HE := Lib.hid (And.intro E0 (And.intro E1 (And.intro E2 (And.intro E3 (And.intro EF EA))))); clear E0 E1 E2 E3 EF EA T0' T1' T2'
    gi_wp2
    gi_loopw [5, 7] (fun p i wr => ∃ (k : Nat) (pre : List (Plc m a)) (x : Int), p = .int .i64 x ∧ i = .int .i64 k ∧ pre.length = k ∧ (k : Int) ≤ dv ∧ -1 ≤ x ∧ x < m ∧ J pre wr ∧ Bx w.heap.size tb w wr ∧ (pre = [] → x = c') ∧ (pre ≠ [] → (pre.map (·.1)).head? = some c')) (fun _ i _ => dv.toNat - (intOf i).toNat)
    case atStart => exact ⟨0, [], c', rfl, rfl, rfl, by omega, by omega, by omega, HJ2.out, .of tb hw2, fun _ => rfl, fun h => absurd rfl h⟩
    case round =>
      obtain ⟨k, pre, x, rfl, rfl, hpl, hkd, hx0, hx1, hJs, hB, hhd, hhd2⟩ := hrel
      have hb0 := hB.blk HH.out.blk hgb2 htg
      have r0 := hb0.cell 0
      have r1 := hb0.cell 1
      have r2 := hb0.cell 2
      have r3 := hb0.cell 3
      simp at r0 r1 r2 r3
      have rf := (hB.cell (p := ⟨bf, 0, none⟩) hbf htf).trans HAF.out.2
      have ra := (hB.cell (p := ⟨ba, 0, none⟩) hba hta).trans HAF.out.1
      by_cases hk : (k : Int) < dv
      · by_cases hx : 0 ≤ x
        · by_cases hfar : (a : Int) - x ≤ 32768
          · obtain ⟨fn, tmps, assign, body, hy, hR⟩ := HY.out pre ⟨x, hx, hx1, hfar⟩ wr hJs (by omega)
            gi_wp2
            refine ⟨fun _ => by omega, hR.mono ?_⟩
            rintro e W3 (⟨rfl, hJ3, hk3⟩ | ⟨rfl, hJx3⟩)
            · have hB3 := hB.trans hk3
              have hb3 := hB3.blk HH.out.blk hgb2 htg
              have q2 := hb3.cell 2
              simp at q2
              have qf := (hB3.cell (p := ⟨bf, 0, none⟩) hbf htf).trans HAF.out.2
              have qx := (hB3.cell (p := ⟨ga, x.toNat, none⟩) hga2 hgt).trans (HCELLS.out x.toNat (by omega))
              have hlow := HH.out.low x.toNat (by omega)
              generalize ah[x.toNat]'(by omega) = y at *
              obtain ⟨kx, rfl⟩ := Int.eq_ofNat_of_zero_le hx
              simp only [Int.ofNat_eq_natCast, Int.toNat_natCast] at *
              gi_wp2
              go_roundw
              case rel =>
                refine ⟨k + 1, pre ++ [⟨kx, hx, hx1, hfar⟩], y, rfl, by go_num, by simp [hpl], by omega, by omega, by omega, hJ3, hB3, fun h => by simp at h, fun _ => ?_⟩
                cases pre with
                | nil => simp [← hhd rfl]
                | cons p r => simpa using hhd2 (by simp)
              case measure => simp [intOf]; omega
            · gi_wp2
              refine bodyPost_ret (results_none rfl _ _ _) rfl ?_
              exact ⟨⟨_, rfl⟩, .inr ⟨_, hJx3⟩⟩
          · gi_wp2
            go_end0
            refine ⟨⟨_, rfl⟩, .inl ⟨pre, fun hc2 => ?_, hJs⟩⟩
            by_cases hp : pre = []
            · exact absurd (hhd hp) (by omega)
            · simpa using hhd2 hp
        · gi_wp2
          go_end0
          refine ⟨⟨_, rfl⟩, .inl ⟨pre, fun hc2 => ?_, hJs⟩⟩
          by_cases hp : pre = []
          · exact absurd (hhd hp) (by omega)
          · simpa using hhd2 hp
      · gi_wp2
        go_end0
        refine ⟨⟨_, rfl⟩, .inl ⟨pre, fun hc2 => ?_, hJs⟩⟩
        by_cases hp : pre = []
        · subst hp; simp at hpl; omega
        · simpa using hhd2 hp
end Go.Proofs.Ythmlfeaoaanmoaa
