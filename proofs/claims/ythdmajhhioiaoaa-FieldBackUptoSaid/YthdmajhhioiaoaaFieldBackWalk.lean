/- The walk of FieldBack. -/
import Derived.Test.YthdmajhhioiaoaaLiftU
import Derived.Test.YthdmajhhioiaoaaFieldBackPlain
import Derived.Test.YthdmajhhioiaoaaFieldReadsWalk
set_option linter.unusedVariables false
set_option linter.unusedSimpArgs false
namespace Go.Proofs.Ythdmajhhioiaoaa
open Go.ChangeShapes Go.WideShapes Go.ChangeAt Go.RowKit
open Go.ChangeMaps (open_string shut_string)
open Sw
set_option maxRecDepth 100000 in
set_option maxHeartbeats 4000000 in
theorem back_walk (n0 c0 n1 c1 n2 c2 N : Nat) (A0 A1 A2 : Option Addr) (R : List Rec) (w : World) (hc0 : c0 ≤ maxLen) (hc1 : c1 ≤ maxLen) (hc2 : c2 ≤ maxLen) (hn0 : n0 ≤ c0) (hn1 : n1 ≤ c1) (hn2 : n2 ≤ c2)
    (hN : min (min (min (n0 : Int) n1) n2) 30 = (N : Int)) (hR : R.length = N) (hx : ∀ r ∈ R, r.x < 2 ^ 64) (hk : ∀ r ∈ R, -9223372036854775808 ≤ r.k ∧ r.k ≤ 9223372036854775807) (hsum : (R.map fun r => r.t.size).sum ≤ 1048576)
    (h0 : SlOf w 1 (fun r : Rec => [Value.int .u64 (r.x : Int)]) A0 R) (h1 : SlOf w 1 (fun r : Rec => [Value.int .i64 r.k]) A1 R) (h2 : SlOf w 1 (fun r : Rec => [Value.string r.t]) A2 R) :
    Calls Try.prog 11 #[.slice A0 n0 c0, .slice A1 n1 c1, .slice A2 n2 c2] w fun e w' => e = .returned (.bool true) ∧ Below w.heap.size w w' := by
  have hle := recsL_le R
  have hN30 : N ≤ 30 := by omega
  have hNn : (N : Int) ≤ n0 ∧ (N : Int) ≤ n1 ∧ (N : Int) ≤ n2 := by omega
  have hbig : (recsL R).length ≤ 2097392 := by omega
  have HH := Lib.hid (And.intro h0 (And.intro h1 h2)); clear h0 h1 h2
  have HX := Lib.hid (And.intro hx hk); clear hx hk
  have HR := Lib.hid hR; clear hR hle hsum
  obtain ⟨hNn0, hNn1, hNn2⟩ := hNn
  unfold maxLen at hc0 hc1 hc2
  have hmin := fun (W : World) => run_min_ints4 (P := Try.prog) W #[3, 3, 3, 3] 3 .i64 n0 n1 n2 30
  rw [hN] at hmin
  clear hN
  go_enter Try.func11, Try.ntmps11
  go_wp2_with fail
  go_loopw [9, 25] (fun v i wr => ∃ k : Nat, k ≤ N ∧ i = .int .i64 k ∧ v = .int .i64 ((recsL (R.take k)).length : Int) ∧ Bld w.heap.size w.heap.size (Lib.byteCells (recsL (R.take k))) wr ∧ Below w.heap.size w wr) (fun _ i _ => N - (intOf i).toNat)
  case atStart => exact ⟨0, Nat.zero_le _, rfl, rfl, bld_fresh w, (Below.refl _ _).alloc (Nat.le_refl _) _⟩
  case round =>
    obtain ⟨k, hk, rfl, rfl, hb, hbl⟩ := hrel
    by_cases hlt : k < N
    · have hkl : k < R.length := by have := HR.out; omega
      obtain ⟨b0, o0, rfl, hb0, q0⟩ := HH.out.1 (by omega)
      obtain ⟨b1, o1, rfl, hb1, q1⟩ := HH.out.2.1 (by omega)
      obtain ⟨b2, o2, rfl, hb2, q2⟩ := HH.out.2.2 (by omega)
      have g0 := (hbl.cell (p := ⟨b0, _, none⟩) hb0).trans (q0 k hkl 0 (by omega))
      have g1 := (hbl.cell (p := ⟨b1, _, none⟩) hb1).trans (q1 k hkl 0 (by omega))
      have g2 := (hbl.cell (p := ⟨b2, _, none⟩) hb2).trans (q2 k hkl 0 (by omega))
      simp at g0 g1 g2
      have hx := HX.out.1 R[k] (List.getElem_mem _)
      have hkk := HX.out.2 R[k] (List.getElem_mem _)
      have htk := recsL_take R k hkl
      have hln := recsL_take_le R (k + 1)
      have hrl := recL_len R[k]
      have hlen2 : (recsL (R.take (k + 1))).length = (recsL (R.take k)).length + (kOf R[k].k + 2 * R[k].t.size) := by rw [htk, List.length_append, hrl]
      have hk8 := kOf_le R[k].k
      have hke := kOf_eq R[k].k
      have Hb := Lib.hid (And.intro hb0 (And.intro hb1 hb2))
      clear q0 q1 q2 hb0 hb1 hb2
      have hnum := fun (W : World) (h : Bld w.heap.size w.heap.size (Lib.byteCells (recsL (R.take k))) W) => writerNum_any w.heap.size w.heap.size (recsL (R.take k)) R[k].x R[k].k W hx (kOf R[k].k) hk8 hke h (Nat.le_of_lt h.lt) (by omega)
      have hcat : recsL (R.take k) ++ putL R[k].x (kOf R[k].k) ++ catL [R[k].t, R[k].t] = recsL (R.take (k + 1)) := by rw [htk]; simp [catL, recL, List.append_assoc]
      have htext : ∀ (W : World) (g : Nat), Bld w.heap.size w.heap.size (Lib.byteCells (recsL (R.take k) ++ putL R[k].x (kOf R[k].k))) W → Blk W g 9 #[.string R[k].t, .string R[k].t] → g ≠ w.heap.size →
          Calls Try.prog 52 #[.pointer (some ⟨w.heap.size, 0, none⟩), .slice (some ⟨g, 0, none⟩) 2 2] W fun e w' => e = .returned (.pointer (some ⟨w.heap.size, 0, none⟩)) ∧ Bld w.heap.size w.heap.size (Lib.byteCells (recsL (R.take (k + 1)))) w' ∧ Below w.heap.size W w' ∧ Lib.OthersKept 5 (some w.heap.size) W w' := by
        intro W g h hg hgn
        rw [← hcat]
        exact writerText_any w.heap.size w.heap.size g (recsL (R.take k) ++ putL R[k].x (kOf R[k].k)) [R[k].t, R[k].t] W h (Nat.le_of_lt h.lt) (by simpa using hg) hgn (by simp [catL, putL_length]; omega) (by simp)
      have hsz : IntKind.i64.wrap (2 * (R[k].t.size : Int)) = 2 * R[k].t.size := IntWalk.i64_in _ (by omega)
      have hN1 := Lib.hid hnum; clear hnum
      have hT1 := Lib.hid htext; clear htext
      have HLEN := Lib.hid (And.intro hlen2 hln); clear hlen2 hln htk hrl hcat hx hkk
      generalize R[k] = r at *
      clear hke
      have HB := Lib.hid (And.intro hb hbl); clear hb hbl
      obtain ⟨kk, hkk⟩ : ∃ kk, kk = kOf r.k := ⟨_, rfl⟩
      rw [← hkk] at hN1 hT1 HLEN hk8
      have HKK := Lib.hid hkk; clear hkk
      have HKE := Lib.hid (kOf_eq r.k)
      have HQ : Hid (∀ W, Below w.heap.size wr W → W.cell? ⟨b0, o0 + k, none⟩ = some (.int .u64 (r.x : Int)) ∧ W.cell? ⟨b1, o1 + k, none⟩ = some (.int .i64 r.k) ∧ W.cell? ⟨b2, o2 + k, none⟩ = some (.string r.t)) :=
        Lib.hid fun W hW => ⟨(hW.cell (p := ⟨b0, _, none⟩) Hb.out.1).trans g0, (hW.cell (p := ⟨b1, _, none⟩) Hb.out.2.1).trans g1, (hW.cell (p := ⟨b2, _, none⟩) Hb.out.2.2).trans g2⟩
      have i0 : (k : Int) < n0 := by omega
      have i1 : (k : Int) < n1 := by omega
      have i2 : (k : Int) < n2 := by omega
      have i3 : (0 : Int) ≤ (k : Int) := by omega
      go_wp2_with fail
      go_region_held3 (fun w' => w'.cell? ⟨b0, o0 + k, none⟩ = some (.int .u64 (r.x : Int)) ∧ w'.cell? ⟨b1, o1 + k, none⟩ = some (.int .i64 r.k) ∧ w'.cell? ⟨b2, o2 + k, none⟩ = some (.string r.t))
        (first | exact ⟨g0, g1, g2⟩ | exact HQ.out _ (((Below.refl _ wr).drew).alloc HB.out.2.size _) | exact HQ.out _ (below_of_drew hbl2) | exact HQ.out _ ((((Below.refl _ wr).drew).alloc HB.out.2.size _).trans hbl2) | exact HQ.out _ ((below_of_drew hbl2).alloc (Nat.le_of_lt hb2.lt) _) | exact HQ.out _ (((below_of_drew hbl2).alloc (Nat.le_of_lt hb2.lt) _).trans hbl3) | exact HQ.out _ (((((Below.refl _ wr).drew).alloc HB.out.2.size _).trans hbl2).trans hbl3))
        (first | (go_at_call 51; refine (hN1.out _ ?_).mono ?_; (first | exact HB.out.1 | exact Bld.alloc HB.out.1 _); rintro e w2 ⟨rfl, hb2, hbl2, ho2⟩) | (go_at_call 52; refine (hT1.out _ _ ?_ ?_ ?_).mono ?_; (first | exact hb2.alloc _ | exact hb2); (first | exact Blk.new _ _ _ | exact others_blk ho2 (Blk.new _ _ _) (Nat.ne_of_gt HB.out.1.lt) (by decide)); (first | exact Nat.ne_of_gt hb2.lt | exact Nat.ne_of_gt HB.out.1.lt); rintro e w3 ⟨rfl, hb3, hbl3, ho3⟩))
      all_goals
        have hblF : Below w.heap.size w w3 := HB.out.2.trans (by first | exact (((below_of_drew hbl2).alloc (Nat.le_of_lt hb2.lt) _).trans hbl3) | exact (((((Below.refl _ wr).drew).alloc HB.out.2.size _).trans hbl2).trans hbl3))
        have HF := Lib.hid (And.intro hb3 hblF)
        have c2 := (HQ.out w3 (by first | exact (((below_of_drew hbl2).alloc (Nat.le_of_lt hb2.lt) _).trans hbl3) | exact (((((Below.refl _ wr).drew).alloc HB.out.2.size _).trans hbl2).trans hbl3))).2.2
        clear hb2 hbl2 ho2 hb3 hbl3 ho3 hblF g0 g1 g2
        have hkk1 := HKK.out
        have hkk2 := HKE.out
        rw [← hkk1] at hkk2
        have HK2 := Lib.hid (And.intro hkk1 hkk2)
        have hlen := HLEN.out
        have s0 : (0 : Int) ≤ ((recsL (R.take k)).length : Int) := by omega
        have s1 : ((recsL (R.take k)).length : Int) + (kk + 2 * r.t.size) ≤ 2097392 := by omega
        clear hkk1 hlen
        rw [hkk2]
        clear hkk2
        go_wp2
        refine ⟨⟨k + 1, by omega, by go_num, ?_, HF.out.1, HF.out.2⟩, by simp [intOf]; omega⟩
        have := HLEN.out.1
        congr 1
        omega
    · obtain rfl : k = N := by omega
      rw [List.take_of_length_le (by have := HR.out; omega)] at hb
      have hS : ∃ S : ByteArray, S = ⟨(recsL R).toArray⟩ ∧ S.size = (recsL R).length := ⟨_, rfl, by simp [ByteArray.size]⟩
      obtain ⟨S, hS, hSz⟩ := hS
      have hlen := fun W h => writerLen_any w.heap.size w.heap.size (recsL R) W h (Nat.le_of_lt h.lt)
      have hbytes := fun W h => writerBytes_any w.heap.size w.heap.size (recsL R) W h (Nat.le_of_lt h.lt)
      rw [← hS] at hbytes
      rw [← hSz] at hlen
      have HL := Lib.hid hlen; clear hlen
      have HY := Lib.hid hbytes; clear hbytes
      have HB := Lib.hid (And.intro hb hbl); clear hb hbl
      have HS := Lib.hid (And.intro hS hSz); clear hS
      have s0 : ((recsL R).length : Int) = S.size := by omega
      rw [List.take_of_length_le (by have := HR.out; omega), s0]
      clear s0
      go_wp2_with (go_at_call 53; refine (HL.out _ HB.out.1).mono ?_; rintro e w1 ⟨rfl, hb1, hbl1, ho1⟩)
      have HB1 := Lib.hid (And.intro hb1 (HB.out.2.trans hbl1)); clear hb1 hbl1 ho1
      go_wp2_with (go_at_call 54; refine (HY.out _ HB1.out.1).mono ?_; rintro e w2 ⟨rfl, hb2, hbl2, ho2⟩)
      have HB2 := Lib.hid (And.intro hb2 (HB1.out.2.trans hbl2)); clear hb2 hbl2 ho2
      go_wp2_with (go_at_call 54; refine (HY.out _ HB2.out.1).mono ?_; rintro e w3 ⟨rfl, hb3, hbl3, ho3⟩)
      have HB3 := Lib.hid (And.intro hb3 (HB2.out.2.trans hbl3)); clear hb3 hbl3 ho3
      go_wp2_with (go_at_call 34; refine (read_any _ S).mono ?_; rintro e w4 ⟨rfl, rfl⟩)
      obtain ⟨G, hG⟩ : ∃ G, G = w3.heap.size := ⟨_, rfl⟩
      have hrd : Rdr (w3.alloc (Obj.cells #[Value.string S, Value.int IntKind.i64 0, Value.bool false] 90)) G S 0 false := by rw [hG]; exact Blk.new _ _ _
      have hbl4 : Below w.heap.size w (w3.alloc (Obj.cells #[Value.string S, Value.int IntKind.i64 0, Value.bool false] 90)) := HB3.out.2.alloc HB3.out.2.size _
      have hGw : w.heap.size < G := by rw [hG]; exact HB3.out.1.lt
      rw [← hG]
      clear hG
      go_loopw [77] (fun i wq => ∃ j : Nat, j ≤ k ∧ i = .int .i64 j ∧ Rdr wq G S (recsL (R.take j)).length false ∧ Below w.heap.size w wq) (fun i _ => k - (intOf i).toNat)
      case atStart => exact ⟨0, Nat.zero_le _, rfl, hrd, hbl4⟩
      case round =>
        obtain ⟨j, hj, rfl, hr, hbl5⟩ := hrel
        by_cases hlt2 : j < k
        · have hkl : j < R.length := by have := HR.out; omega
          obtain ⟨b0, o0, rfl, hb0, q0⟩ := HH.out.1 (by omega)
          obtain ⟨b1, o1, rfl, hb1, q1⟩ := HH.out.2.1 (by omega)
          obtain ⟨b2, o2, rfl, hb2, q2⟩ := HH.out.2.2 (by omega)
          have g0 := (hbl5.cell (p := ⟨b0, _, none⟩) hb0).trans (q0 j hkl 0 (by omega))
          have g1 := (hbl5.cell (p := ⟨b1, _, none⟩) hb1).trans (q1 j hkl 0 (by omega))
          have g2 := (hbl5.cell (p := ⟨b2, _, none⟩) hb2).trans (q2 j hkl 0 (by omega))
          simp at g0 g1 g2
          have hx := HX.out.1 R[j] (List.getElem_mem _)
          have hkk := HX.out.2 R[j] (List.getElem_mem _)
          have htk := recsL_take R j hkl
          have hspl := recsL_split R j hkl
          have hSl : S.data.toList = recsL R := by rw [HS.out.1]
          rw [hspl] at hSl
          have hk8 := kOf_le R[j].k
          have hke := kOf_eq R[j].k
          have hm1 := rd_mid S (recsL (R.take j)) (putL R[j].x (kOf R[j].k)) (R[j].t.data.toList ++ R[j].t.data.toList ++ recsL (R.drop (j + 1))) (by rw [hSl]; simp [recL, List.append_assoc]) _ (kOf R[j].k) rfl (putL_length _ _).symm
          have hm2 := rd_mid S (recsL (R.take j) ++ putL R[j].x (kOf R[j].k)) R[j].t.data.toList (R[j].t.data.toList ++ recsL (R.drop (j + 1))) (by rw [hSl]; simp [recL, List.append_assoc]) _ R[j].t.size rfl (by rw [Array.length_toList]; rfl)
          have hm3 := rd_mid S (recsL (R.take j) ++ putL R[j].x (kOf R[j].k) ++ R[j].t.data.toList) R[j].t.data.toList (recsL (R.drop (j + 1))) (by rw [hSl]; simp [recL, List.append_assoc]) _ R[j].t.size rfl (by rw [Array.length_toList]; rfl)
          obtain ⟨p, hp⟩ : ∃ p, p = (recsL (R.take j)).length := ⟨_, rfl⟩
          have hl2 : (recsL (R.take j) ++ putL R[j].x (kOf R[j].k)).length = p + kOf R[j].k := by rw [List.length_append, putL_length, hp]
          have hl3 : (recsL (R.take j) ++ putL R[j].x (kOf R[j].k) ++ R[j].t.data.toList).length = p + kOf R[j].k + R[j].t.size := by
            rw [List.length_append, hl2, Array.length_toList]; rfl
          have hl4 : (recsL (R.take (j + 1))).length = p + kOf R[j].k + R[j].t.size + R[j].t.size := by rw [htk, List.length_append, recL_len, ← hp]; omega
          rw [hl2] at hm2
          rw [hl3] at hm3
          rw [← hp] at hm1 hr
          have hln := recsL_take_le R (j + 1)
          have hSz := HS.out.2
          have hmax : S.size ≤ maxLen := by unfold maxLen; omega
          have hnum : ∀ W, Rdr W G S p false → Calls Try.prog 35 #[.pointer (some ⟨G, 0, none⟩), .int .i64 (kOf R[j].k)] W fun e w' => e = .returned (.int .u64 ((R[j].x % 256 ^ kOf R[j].k : Nat) : Int)) ∧ Rdr w' G S (p + kOf R[j].k) false ∧ W.grownBy w' (some G) := by
            intro W h
            have hw : wd (kOf R[j].k : Int) = kOf R[j].k := by unfold wd; rw [if_neg (by omega)]
            have h1 := rdNum_any W G S p false (kOf R[j].k) hmax (by omega) h
            rw [hw, hm1.2.2.1, hm1.2.2.2] at h1
            rw [rdNum, hw, hm1.2.1, leN_putL] at h1
            exact h1
          have htx : ∀ W q, rdText S q false R[j].t.size = R[j].t → rdAt S q false R[j].t.size = q + R[j].t.size → rdBad S q false R[j].t.size = false → q ≤ S.size → Rdr W G S q false → Calls Try.prog 37 #[.pointer (some ⟨G, 0, none⟩), .int .i64 R[j].t.size] W fun e w' => e = .returned (.string R[j].t) ∧ Rdr w' G S (q + R[j].t.size) false ∧ W.grownBy w' (some G) := by
            intro W q e1 e2 e3 hq h
            have h1 := rdText_any W G S q false R[j].t.size hmax hq h
            rw [e1, e2, e3] at h1
            exact h1
          have ht1 := fun W => htx W (p + kOf R[j].k) (byteArray_of _ _ hm2.2.1) hm2.2.2.1 hm2.2.2.2 (by omega)
          have ht2 := fun W => htx W (p + kOf R[j].k + R[j].t.size) (byteArray_of _ _ hm3.2.1) hm3.2.2.1 hm3.2.2.2 (by omega)
          have HK := Lib.hid (And.intro hnum (And.intro ht1 ht2)); clear hnum htx ht1 ht2
          clear hm1 hm2 hm3 hl2 hl3 hspl hSl htk hkk q0 q1 q2
          have HE := Lib.hid (And.intro hl4 (And.intro hp (And.intro hln hSz))); clear hl4 hp hln hSz
          have hHb := Lib.hid (And.intro hb0 (And.intro hb1 hb2)); clear hb0 hb1 hb2
          have HB5 := Lib.hid (And.intro hr hbl5); clear hr hbl5
          have HX2 := Lib.hid hx; clear hx
          generalize R[j] = r at *
          generalize kOf r.k = kk at *
          have i0 : (j : Int) < n0 := by omega
          have i1 : (j : Int) < n1 := by omega
          have i2 : (j : Int) < n2 := by omega
          have i3 : (0 : Int) ≤ (j : Int) := by omega
          go_upto_if 91 with fail
          go_cut [15] from 91 to 96 (fun v wx => v = .int .u64 ((r.x % 256 ^ kk : Nat) : Int) ∧ wx = wr)
          case first =>
            by_cases h8 : kk < 8
            · obtain ⟨M, hM⟩ : ∃ M : Nat, M = 256 ^ kk := ⟨_, rfl⟩
              have hM1 : 1 ≤ M := by rw [hM]; exact Nat.one_le_pow _ _ (by omega)
              have hsh : IntKind.u64.wrap ((2 : Int) ^ (8 * kk)) = (M : Int) := by
                have e1 : ((2 : Int) ^ (8 * kk)) = (M : Int) := by rw [hM, Int.natCast_pow, Int.pow_mul]; rfl
                rw [e1]
                refine IntWalk.u64_in _ ⟨by omega, ?_⟩
                have : M ≤ 256 ^ 7 := by rw [hM]; exact Nat.pow_le_pow_right (by omega) (by omega)
                omega
              have HM := Lib.hid hM; clear hM
              go_wp2_with fail
              go_meet
              case rel => exact ⟨by rw [← HM.out]; rfl, rfl⟩
            · obtain rfl : kk = 8 := by omega
              have hx8 : r.x % 256 ^ 8 = r.x := Nat.mod_eq_of_lt (by have := HX2.out; omega)
              have HX8 := Lib.hid hx8; clear hx8
              go_wp2_with fail
              go_meet
              case rel => exact ⟨by rw [HX8.out], rfl⟩
          case rest =>
            obtain ⟨rfl, rfl⟩ := hcut
            have c2 : ∀ W, Below w.heap.size wc W → W.cell? ⟨b2, o2 + j, none⟩ = some (.string r.t) := fun W hW => (hW.cell (p := ⟨b2, _, none⟩) hHb.out.2.2).trans g2
            have HC2 := Lib.hid c2; clear c2
            have hGl : w.heap.size ≤ wc.heap.size := HB5.out.2.size
            have HGL := Lib.hid (And.intro hGl (Nat.le_of_lt hGw)); clear hGl
            go_wp2_with fail
            go_region_held3 (fun w' => w'.cell? ⟨b2, o2 + j, none⟩ = some (.string r.t))
              (first | exact g2 | exact HC2.out _ (below_grown (below_grown (below_grown (Below.refl _ wc) (grown_of_drew hg2) HGL.out.2 HGL.out.1) hg3 HGL.out.2 (Nat.le_trans HGL.out.1 hg2.size)) hg4 HGL.out.2 (Nat.le_trans HGL.out.1 (Nat.le_trans hg2.size hg3.size))) | exact HC2.out _ (below_grown (below_grown (Below.refl _ wc) (grown_of_drew hg2) HGL.out.2 HGL.out.1) hg3 HGL.out.2 (Nat.le_trans HGL.out.1 hg2.size)) | exact HC2.out _ (below_grown (Below.refl _ wc) (grown_of_drew hg2) HGL.out.2 HGL.out.1) | go_keep)
              (first | (go_at_call 35; refine (HK.out.1 _ ?_).mono ?_; exact HB5.out.1; rintro e x2 ⟨rfl, hr2, hg2⟩) | (go_at_call 37; refine (HK.out.2.1 _ ?_).mono ?_; exact hr2; clear hr2; rintro e x3 ⟨rfl, hr3, hg3⟩) | (go_at_call 37; refine (HK.out.2.2 _ ?_).mono ?_; exact hr3; rintro e x4 ⟨rfl, hr4, hg4⟩))
            have hbF := HB5.out.2.trans (below_grown (below_grown (below_grown (Below.refl _ wc) (grown_of_drew hg2) HGL.out.2 HGL.out.1) hg3 HGL.out.2 (Nat.le_trans HGL.out.1 hg2.size)) hg4 HGL.out.2 (Nat.le_trans HGL.out.1 (Nat.le_trans hg2.size hg3.size)))
            have HF := Lib.hid (And.intro hr4 hbF)
            clear hr3 hr4 hg2 hg3 hg4 hbF g0 g1 g2
            go_wp2_with fail
            refine ⟨⟨j + 1, by omega, by go_num, ?_, HF.out.2⟩, by simp [intOf]; omega⟩
            rw [HE.out.1]
            exact HF.out.1
        · obtain rfl : j = k := by omega
          have hp : (recsL (R.take j)).length = S.size := by rw [List.take_of_length_le (by have := HR.out; omega), HS.out.2]
          rw [hp] at hr
          clear hp
          have hmax : S.size ≤ maxLen := by unfold maxLen; omega
          have hz : IntKind.i64.wrap ((S.size : Int) - S.size) = 0 := by rw [Int.sub_self]; rfl
          have hfine := fun W h => fine_any W G S S.size false h
          have hleft := fun W h => left_any W G S S.size false hmax (Nat.le_refl _) h
          simp only [Int.sub_self] at hleft
          have HC := Lib.hid (And.intro hfine hleft); clear hfine hleft
          have HB5 := Lib.hid (And.intro hr hbl5); clear hr hbl5
          go_wp2_with (first | (go_at_call 42; refine (HC.out.1 _ ?_).mono ?_; exact HB5.out.1; rintro e y1 ⟨rfl, rfl⟩) | (go_at_call 41; refine (HC.out.2 _ ?_).mono ?_; exact HB5.out.1; rintro e y1 ⟨rfl, ny, rfl⟩) | (go_at_call 51; refine (writerNum_nil 1 2 _ (by omega) 2 (by omega) (by decide)).mono ?_; rintro e y2 ⟨rfl, hy2⟩; have HY2 := Lib.hid hy2; clear hy2) | (go_at_call 52; refine (writerText_nil _ _).mono ?_; rintro e y3 ⟨rfl, rfl⟩) | (go_at_call 54; refine (writerBytes_nil _).mono ?_; rintro e y3 ⟨rfl, rfl⟩) | (go_at_call 53; refine (writerLen_nil _).mono ?_; rintro e y3 ⟨rfl, rfl⟩) | (go_at_call 16; refine (field_lives _).mono ?_; rintro e y4 ⟨rfl, hy4⟩; have HY4 := Lib.hid hy4; clear hy4))
          go_ret
          have z1 := HB5.out.2.size
          have z2 := HY2.out.size
          simp at z2
          exact ⟨rfl, (((below_drewN HB5.out.2 ny).trans (HY2.out.mono (by simp; omega))).alloc (by omega) _).trans (HY4.out.mono (by simp; omega))⟩
theorem slOf_map {w : World} {size : Nat} {α β : Type} {E : α → List Value} {F : β → List Value} {A : Option Addr} {l : List α} {m : List β} (h : SlOf w size E A l) (hl : m.length ≤ l.length) (he : ∀ i (h1 : i < m.length) (h2 : i < l.length), F m[i] = E l[i]) : SlOf w size F A m := fun hn => by
  obtain ⟨b, off, hA, hlt, hc⟩ := h (by omega)
  exact ⟨b, off, hA, hlt, fun i hi j hj => by rw [he i hi (by omega)]; exact hc i (by omega) j hj⟩
theorem sum_take_le (l : List Nat) (n : Nat) : (l.take n).sum ≤ l.sum := by
  conv => rhs; rw [← List.take_append_drop n l]
  rw [List.sum_append]; omega
theorem fieldBack_walk : WalksU 11 Try.f11 := by
  intro H enc W base args ds ps hval hA hlt hbulk
  rw [Try.params11] at hA hval
  obtain ⟨v0, v1, v2, d0, d1, d2, p0, p1, p2, rfl, rfl, rfl, h0, h1, h2⟩ := trodAll_three hA
  obtain ⟨A0, n0, c0, l0, rfl, hnc0, hcm0, hl0, hs0, hv0, _⟩ := open_slice_dec (size := 1) (fun a : Nat => [Value.int .u64 (a : Int)]) (fun a => a < 2 ^ 64) Try.underlying72 (by kernel_rfl) (by omega) (fun fuel cs x h => by
    obtain ⟨k, ek, _, wk⟩ := DataW.trod_int Try.underlying22 h
    obtain ⟨k0, k1⟩ := bounds_u64 wk
    obtain ⟨k, rfl⟩ := Int.eq_ofNat_of_zero_le k0
    exact ⟨k, ek, by omega⟩) (hval 0 72 v0 rfl rfl) h0
  obtain ⟨A1, n1, c1, l1, rfl, hnc1, hcm1, hl1, hs1, hv1, _⟩ := open_slice_dec (size := 1) (fun a : Int => [Value.int .i64 a]) (fun a => -9223372036854775808 ≤ a ∧ a ≤ 9223372036854775807) Try.underlying73 (by kernel_rfl) (by omega) (fun fuel cs x h => by
    obtain ⟨k, ek, _, wk⟩ := DataW.trod_int Try.underlying3 h
    exact ⟨k, ek, bounds_i64 wk⟩) (hval 1 73 v1 rfl rfl) h1
  obtain ⟨A2, n2, c2, l2, rfl, hnc2, hcm2, hl2, hs2, hv2, _, hw2⟩ := open_slice_bulk (size := 1) (fun a : ByteArray => [Value.string a]) (fun a => a.size ≤ maxLen) (fun a => a.size) Try.underlying74 (by kernel_rfl) (by omega) (fun fuel cs x h => by
    obtain ⟨s, es, rfl, ws⟩ := DataW.trod_string Try.underlying9 h
    exact ⟨s, es, ws, by show s.size ≤ Rows.uptoBulk (DataW.lit (.string s.data.toList)); rw [bulk_string]; omega⟩) (hval 2 74 v2 rfl rfl) h2
  simp only [Rows.uptoBulkAll] at hbulk
  obtain ⟨N, hN⟩ : ∃ N : Nat, min (min (min (n0 : Int) n1) n2) 30 = (N : Int) := ⟨(min (min (min (n0 : Int) n1) n2) 30).toNat, by omega⟩
  have hN0 : N ≤ l0.length := by omega
  have hN1 : N ≤ l1.length := by omega
  have hN2 : N ≤ l2.length := by omega
  obtain ⟨R, hRl, hR⟩ := exists_list (Q := fun i (r : Rec) => (∀ h : i < l0.length, r.x = l0[i]) ∧ (∀ h : i < l1.length, r.k = l1[i]) ∧ (∀ h : i < l2.length, r.t = l2[i])) N (fun i hi => ⟨⟨l0[i], l1[i], l2[i]⟩, fun _ => rfl, fun _ => rfl, fun _ => rfl⟩)
  have hx : ∀ r ∈ R, r.x < 2 ^ 64 := fun r hr => by
    obtain ⟨i, hi, rfl⟩ := List.getElem_of_mem hr
    rw [(hR i hi).1 (by omega)]
    exact hv0 _ (List.getElem_mem _)
  have hk : ∀ r ∈ R, -9223372036854775808 ≤ r.k ∧ r.k ≤ 9223372036854775807 := fun r hr => by
    obtain ⟨i, hi, rfl⟩ := List.getElem_of_mem hr
    rw [(hR i hi).2.1 (by omega)]
    exact hv1 _ (List.getElem_mem _)
  have hsum : (R.map fun r => r.t.size).sum ≤ 1048576 := by
    have e : (R.map fun r => r.t.size) = (l2.map fun a => a.size).take N := by
      apply List.ext_getElem
      · simp; omega
      · intro i h1 h2
        simp at h1
        simp [(hR i h1).2.2 (by omega)]
    rw [e]
    have := sum_take_le (l2.map fun a => a.size) N
    omega
  refine back_walk n0 c0 n1 c1 n2 c2 N A0 A1 A2 R W hcm0 hcm1 hcm2 hnc0 hnc1 hnc2 hN hRl hx hk hsum ?_ ?_ ?_
  · exact slOf_map hs0 (by omega) (fun i h1 h2 => by rw [(hR i h1).1 h2])
  · exact slOf_map hs1 (by omega) (fun i h1 h2 => by rw [(hR i h1).2.1 h2])
  · exact slOf_map hs2 (by omega) (fun i h1 h2 => by rw [(hR i h1).2.2 h2])
end Go.Proofs.Ythdmajhhioiaoaa
