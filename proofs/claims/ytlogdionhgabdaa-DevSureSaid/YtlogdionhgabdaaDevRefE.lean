/- The reference's device: it goes on, and of what was not sure some is kept. -/
import Derived.Test.YtlogdionhgabdaaDevRefD
import Derived.Test.YtlogdionhgabdaaDevRestart
set_option linter.unusedVariables false
set_option linter.unusedSimpArgs false
namespace Go.Proofs.Ytlogdionhgabdaa
open Go Go.RowKit
open Sw
section
variable {w w' : World} {F G : Nat → Prop} {br : Nat} {vS vW : Value} {d : Dv}
/-- the row of writes, read while the row of sure sectors is turned -/
theorem RefS.wetKept {S : List ByteArray} {wr : World} {g n c : Nat} {AW : Option Addr} {m cW : Nat} (h : RefS w G br (.slice (some ⟨g, 0, none⟩) n c) (.slice AW m cW) d S wr) {l : List (Int × ByteArray)} (hs : SlOf wr 2 wE AW l) (i : Nat) (u : Value) : SlOf (wr.setCell ⟨g, i, none⟩ u) 2 wE AW l := fun hp => by
  obtain ⟨b', off', hA, hb', hc'⟩ := hs hp
  refine ⟨b', off', hA, by simpa [World.setCell] using hb', fun i' hi k hk => ?_⟩
  rw [← hc' i' hi k hk]
  have hne : b' ≠ g := by
    intro e
    refine h.ref.neSW (g := g) rfl ?_
    rw [hA]
    show some b' = some g
    rw [e]
  exact World.cell?_of_block (a := ⟨b', _, none⟩) (Below.heap_setCell wr _ _ b' hne)
set_option maxRecDepth 100000 in
set_option maxHeartbeats 1000000 in
theorem refRestart_any (h : RefIn w G br vS vW d) (hok : d.Ok) (hwl : d.wet.length ≤ 999998) (v : Value) (keep : List Int) (hkl : keep.length ≤ maxLen) (hkb : ∀ x ∈ keep, -9223372036854775808 ≤ x ∧ x ≤ 9223372036854775807) (hkeep : ∀ W, Turn G w W → SlV W 1 intE v keep) :
    Calls Try.prog 20 #[.pointer (some ⟨br, 0, none⟩), v] w fun e w' => e = .returned (.tuple #[]) ∧ (∃ G', RefAt w' G' br (d.restart keep) ∧ ∀ j, G' j → G j ∨ w.heap.size ≤ j) ∧ Turn G w w' := by
  obtain ⟨AK, cK, rfl, hk1, hk2, _⟩ := hkeep w (Turn.refl G w)
  obtain ⟨AS, cS, rfl, _⟩ := SlV_of_any h.sure
  obtain ⟨AW, cW, rfl, _⟩ := SlV_of_any h.wet
  have hwv : SlOf w 2 wE AW d.wet := by
    obtain ⟨A', c', he, _, _, hs⟩ := SlV.of_own h.wet (fun _ => rfl) (by decide)
    cases he
    exact hs
  have b0 := h.box.cell 0
  simp at b0
  obtain ⟨m, hm⟩ : ∃ m, d.wet.length = m := ⟨_, rfl⟩
  obtain ⟨Z, hZ⟩ : ∃ Z, d.size = Z := ⟨_, rfl⟩
  have hZ8 : Z ≤ 8192 := by rw [← hZ]; exact hok.size
  have hm8 : m ≤ 999998 := by rw [← hm]; exact hwl
  have hrs0 : RefS w G br (.slice AS Z cS) (.slice AW m cW) d (restL keep d.wet (keysD 0 d.wet) 0 d.sure) w := ⟨by rw [← hm, ← hZ]; exact h, Turn.refl G w⟩
  rw [hZ] at b0
  have HH := Lib.hid (And.intro hok (And.intro hm (And.intro hZ (And.intro hkl (And.intro hkb hkeep))))); clear hok hm hZ hkl hkb hkeep hwl h
  have H0 := Lib.hid (And.intro hrs0 hwv); clear hrs0 hwv
  go_enter Try.func20, Try.ntmps20
  go_wp2_with fail
  go_loopw [4, 15] (fun nv av wr => ∃ a : Nat, a ≤ Z ∧ av = .int .i64 a ∧ nv = .int .i64 ((keysD a d.wet).length : Nat) ∧ RefS w G br (.slice AS Z cS) (.slice AW m cW) d (restL keep d.wet (keysD a d.wet) 0 d.sure) wr ∧ SlOf wr 2 wE AW d.wet) (fun _ av _ => Z - (intOf av).toNat)
  case atStart => exact ⟨0, Nat.zero_le _, rfl, rfl, H0.out.1, H0.out.2⟩
  case round =>
    obtain ⟨a, ha, rfl, rfl, hrs, hsl⟩ := hrel
    obtain ⟨wo, hwo⟩ : ∃ wo, wo = wr := ⟨_, rfl⟩
    rw [← hwo] at hrs hsl ⊢
    clear hwo wr
    by_cases hlt : a < Z
    · have hb1 := hrs.ref.box.cell 1
      simp at hb1
      have ha1 : (a : Int) < Z := by omega
      have hkln : (keysD a d.wet).length ≤ a := by
        have h2 : (keysD a d.wet).length ≤ (List.range a).length := by unfold keysD; exact List.length_filter_le _ _
        rwa [List.length_range] at h2
      have hsucc := keysD_succ a d.wet
      obtain ⟨n, hn⟩ : ∃ n, (keysD a d.wet).length = n := ⟨_, rfl⟩
      rw [hn] at hkln
      rw [hn]
      have HR := Lib.hid (And.intro hrs (And.intro hsl (And.intro hsucc hn))); clear hrs hsl hsucc hn H0
      go_wp2_with fail
      go_loopw [6, 23] (fun lv jv wi => ∃ j : Nat, j ≤ m ∧ jv = .int .i64 j ∧ wi.ownsRow wo.heap.size 9 1 lv (wetAt (d.wet.take j) a).length ((wetAt (d.wet.take j) a).map Value.string) ∧ Below wo.heap.size wo wi) (fun _ jv _ => m - (intOf jv).toNat)
      case atStart => exact ⟨0, Nat.zero_le _, rfl, World.ownsRow_nil _ _ _ _, Below.refl _ _⟩
      case round =>
        obtain ⟨j, hj, rfl, hrow, hb⟩ := hrel
        by_cases hltj : j < m
        · have hjl : j < d.wet.length := by rw [HH.out.2.1]; exact hltj
          obtain ⟨b, off, hA, hbb, hcs⟩ := (HR.out.2.1.below hb (Nat.le_refl _)) (by omega)
          have q0 := hcs j hjl 0 (by omega)
          have q1 := hcs j hjl 1 (by omega)
          simp only [wE, List.getElem?_cons_succ, List.getElem?_cons_zero, Nat.add_zero] at q0 q1
          subst hA
          clear hcs
          have hstep := wetAt_take d.wet j hjl a
          have hlen := wetAt_len (d.wet.take j) a
          have htl : (d.wet.take j).length ≤ m := by rw [List.length_take, HH.out.2.1]; omega
          obtain ⟨⟨ka, ks⟩, hx⟩ : ∃ x, d.wet[j] = x := ⟨_, rfl⟩
          rw [hx] at q0 q1 hstep
          simp only at q0 q1 hstep
          have hj1 : (j : Int) < m := by omega
          obtain ⟨W, hW⟩ : ∃ W, wr.alloc (.cells #[.int .i64 ka, .string ks] 59) = W := ⟨_, rfl⟩
          obtain ⟨N, hN⟩ : ∃ N, wr.heap.size = N := ⟨_, rfl⟩
          have hbW : Below wr.heap.size wr W := by rw [← hW]; exact (Below.refl _ _).alloc (Nat.le_refl _) _
          have hblk : Blk W N 59 #[.int .i64 ka, .string ks] := by rw [← hW, ← hN]; exact Blk.new wr _ _
          have n0 := hblk.cell 0
          have n1 := hblk.cell 1
          simp at n0 n1
          have hrowW := own_kept hrow hbW
          have hbb2 : Below wo.heap.size wo W := hb.trans (hbW.mono hb.size)
          have HW := Lib.hid (And.intro hrowW (And.intro hbb2 hbW.size)); clear hrowW hbb2 hbW hrow hb hblk hx
          go_upto_region 8 with fail
          try rw [hW]
          try rw [hN]
          clear hW hN q0 q1
          by_cases hkn : ka = a
          · rw [if_pos hkn] at hstep
            subst hkn
            obtain ⟨A3, c3, hl3, _⟩ := SlV_of_any HW.out.1
            subst hl3
            have HS := Lib.hid hstep; clear hstep
            go_wp2_with (at_builtin; refine wpList_app rfl _ _ 40 rfl wo.heap.size 9 (.string ⟨#[]⟩) 1 16 Try.underlying40 infoStr rfl (by decide) _ (wetAt (d.wet.take j) a).length ((wetAt (d.wet.take j) a).map Value.string) rfl (own_kept HW.out.1 ((Below.refl _ _).alloc (Nat.le_refl _) _)) W.heap.size 1 #[.string ks] 9 rfl (Blk.new W _ _) rfl (by simp [Value.oneCell']) (by omega) (by decide) (by have := HW.out.2.1.size; simp; omega) _ rfl ?_; intro g cap w3 ho3 hg3 hat3 hlt3; have HA := Lib.hid (And.intro ho3 (own_below (own_kept HW.out.1 ((Below.refl _ _).alloc (Nat.le_refl _) (.cells #[.string ks] 9))) (HW.out.2.1.alloc HW.out.2.1.size (.cells #[.string ks] 9)) hg3 (Nat.le_refl _) (by have := HW.out.2.1.size; simp; omega))); clear ho3 hg3 hat3 hlt3)
            go_roundw
            case rel => exact ⟨j + 1, by omega, by go_num, by rw [HS.out, List.length_append, List.map_append]; exact HA.out.1, HA.out.2⟩
            case measure => simp [intOf]; omega
          · rw [if_neg hkn] at hstep
            have HS := Lib.hid hstep; clear hstep
            have hkf : (ka == (a : Int)) = false := by simpa using hkn
            clear hkn
            go_wp2_with fail
            go_roundw
            case rel => exact ⟨j + 1, by omega, by go_num, by rw [HS.out]; exact HW.out.1, HW.out.2.1⟩
            case measure => simp [intOf]; omega
        · obtain rfl : j = m := by omega
          have ht : d.wet.take j = d.wet := List.take_of_length_le (by rw [HH.out.2.1]; exact Nat.le_refl _)
          rw [ht] at hrow
          have hrsw := HR.out.1.keep hb
          have hslw := HR.out.2.1.below hb (Nat.le_refl _)
          obtain ⟨A3, c3, hl3, _⟩ := SlV_of_any hrow
          subst hl3
          by_cases hq0 : wetAt d.wet a = []
          · have he : keysD (a + 1) d.wet = keysD a d.wet := by rw [HR.out.2.2.1, hq0]; simp
            have hql : (wetAt d.wet a).length = 0 := by rw [hq0]; rfl
            rw [hql]
            have HX := Lib.hid (And.intro he (And.intro hrsw hslw)); clear hql hrow he hrsw hslw hb ht
            go_wp2_with fail
            go_roundw
            case rel => exact ⟨a + 1, by omega, by go_num, by rw [HX.out.1, HR.out.2.2.2], by rw [HX.out.1]; exact HX.out.2.1, HX.out.2.2⟩
            case measure => simp [intOf]; omega
          · have he : keysD (a + 1) d.wet = keysD a d.wet ++ [a] := by rw [HR.out.2.2.1]; simp [hq0]
            have hrl : restL keep d.wet (keysD (a + 1) d.wet) 0 d.sure = keepS keep d.wet n a (restL keep d.wet (keysD a d.wet) 0 d.sure) := by rw [he, restL_snoc, HR.out.2.2.2, Nat.zero_add]
            have hkn1 : (keysD (a + 1) d.wet).length = n + 1 := by rw [he, List.length_append, HR.out.2.2.2]; rfl
            have hpos : 0 < (wetAt d.wet a).length := List.length_pos_iff.2 hq0
            obtain ⟨g2, cap2, cur2, hg2, _, hgb2, _⟩ := own_form hrow hpos
            cases hg2
            have hwn := wetAt_len d.wet a
            rw [HH.out.2.1] at hwn
            unfold keepS at hrl
            generalize hq : (wetAt d.wet a).length = q at *
            have hkk := HH.out.2.2.2.2.2 wr hrsw.turn
            have HX := Lib.hid (And.intro hrl (And.intro hkn1 (And.intro hrsw (And.intro hslw (And.intro hq hrow))))); clear hrl hkn1 hrsw hslw hq hrow he hq0 hb ht
            have w1 : IntKind.i64.wrap ((n : Int) + 1) = n + 1 := IntWalk.i64_in _ (by omega)
            have hqp : (0 : Int) < q := by omega
            rcases Nat.eq_zero_or_pos keep.length with hk0 | hk0
            · have hkz : kOf keep n q = 0 := by unfold kOf; rw [if_pos hk0]
              have hs := HX.out.1
              rw [hkz, if_neg (by omega)] at hs
              have HS := Lib.hid hs; clear hs hkz
              have hb1 : decide ((0 : Int) < keep.length) = false := decide_eq_false (by omega)
              have hb2 : decide (0 < keep.length) = false := decide_eq_false (by omega)
              clear hk0
              go_wp2_with fail
              go_roundw
              case rel => exact ⟨a + 1, by omega, by go_num, by rw [HX.out.2.1]; simp, by rw [HS.out]; exact HX.out.2.2.1, HX.out.2.2.2.1⟩
              case measure => simp [intOf]; omega
            · obtain ⟨A', c', heq, _, _, hsl'⟩ := hkk
              cases heq
              obtain ⟨kb, ko, hAK, _, hkc⟩ := hsl' hk0
              subst hAK
              obtain ⟨r, hr⟩ : ∃ r, n % keep.length = r := ⟨_, rfl⟩
              have hrl : r < keep.length := by rw [← hr]; exact Nat.mod_lt _ hk0
              have hkr := hkc r hrl 0 (by omega)
              simp only [intE, List.getElem?_cons_zero, Nat.mul_one, Nat.add_zero] at hkr
              obtain ⟨kx, hkx⟩ : ∃ kx, keep[r] = kx := ⟨_, rfl⟩
              rw [hkx] at hkr
              have hkxb := HH.out.2.2.2.2.1 kx (by rw [← hkx]; exact List.getElem_mem hrl)
              have hkp : (0 : Int) < keep.length := by omega
              have hke : kOf keep n q = (max 0 kx).toNat % (q + 1) := by
                unfold kOf
                rw [if_neg (by omega), hr, List.getD_eq_getElem?_getD, List.getElem?_eq_getElem hrl, hkx]
                rfl
              clear hsl' hkc hkx
              by_cases hkpos : 0 < kx
              · have hki : kx % ((q : Int) + 1) = ((kOf keep n q : Nat) : Int) := by
                  rw [hke, Int.natCast_emod]
                  have : kx = (((max 0 kx).toNat : Nat) : Int) := by omega
                  rw [← this]
                  rfl
                have hkq : kOf keep n q ≤ q := by rw [hke]; have := Nat.mod_lt (max 0 kx).toNat (show 0 < q + 1 by omega); omega
                clear hke
                rcases Nat.eq_zero_or_pos (kOf keep n q) with hkz | hkz
                · have hs := HX.out.1
                  rw [hkz, if_neg (by omega)] at hs
                  have HS := Lib.hid hs; clear hs
                  rw [hkz] at hki
                  clear hkz
                  go_wp2_with fail
                  go_roundw
                  case rel => exact ⟨a + 1, by omega, by go_num, by rw [HX.out.2.1]; simp, by rw [HS.out]; exact HX.out.2.2.1, HX.out.2.2.2.1⟩
                  case measure => simp [intOf]; omega
                · obtain ⟨k, hk⟩ : ∃ k, kOf keep n q = k := ⟨_, rfl⟩
                  have hcl := HX.out.2.2.2.2.2.cells rfl (k - 1) (.string ((wetAt d.wet a).getD (k - 1) zS)) (by
                    have hl : k - 1 < (wetAt d.wet a).length := by rw [HX.out.2.2.2.2.1]; omega
                    rw [List.getElem?_map, List.getElem?_eq_getElem hl, List.getD_eq_getElem?_getD, List.getElem?_eq_getElem hl]
                    rfl)
                  rw [show ((⟨g2, 0, none⟩ : Addr).add (k - 1)) = ⟨g2, k - 1, none⟩ by rw [add_mk, Nat.zero_add]] at hcl
                  have hs := HX.out.1
                  rw [if_pos hkz, hk] at hs
                  obtain ⟨s, hsd⟩ : ∃ s, (wetAt d.wet a).getD (k - 1) zS = s := ⟨_, rfl⟩
                  rw [hsd] at hcl hs
                  have HS := Lib.hid hs; clear hs hsd
                  rw [hk] at hki hkz hkq
                  clear hk
                  have hk1' : (0 : Int) < k := by omega
                  have ww : IntKind.i64.wrap ((k : Int) - 1) = k - 1 := IntWalk.i64_in _ (by omega)
                  have hn1 : ((k : Int) - 1).toNat = k - 1 := by omega
                  obtain ⟨g, cap, cur, hg1, _, hgb, _⟩ := own_form HX.out.2.2.1.ref.sure (by show 0 < d.size; rw [HH.out.2.2.1]; omega)
                  rw [HH.out.2.2.1] at hg1
                  cases hg1
                  have hzs := HH.out.2.2.1
                  have hsd2 : (restL keep d.wet (keysD a d.wet) 0 d.sure).length = d.size := by rw [restL_len]; exact HH.out.1.len
                  have hcg : wr.cell? ⟨g, a, none⟩ = some (.string ((restL keep d.wet (keysD a d.wet) 0 d.sure).getD a zS)) := by
                    have := HX.out.2.2.1.ref.sure.cells rfl a (.string ((restL keep d.wet (keysD a d.wet) 0 d.sure).getD a zS)) (by
                      show ((restL keep d.wet (keysD a d.wet) 0 d.sure).map Value.string)[a]? = _
                      rw [List.getElem?_map, List.getElem?_eq_getElem (by rw [hsd2]; omega), List.getD_eq_getElem?_getD, List.getElem?_eq_getElem (by rw [hsd2]; omega)]; rfl)
                    rw [show ((⟨g, 0, none⟩ : Addr).add a) = ⟨g, a, none⟩ by rw [add_mk, Nat.zero_add]] at this
                    exact this
                  have hb0 := HX.out.2.2.1.ref.box.cell 0
                  simp at hb0
                  have j0 : ∀ m' : Held (JustW wr.drew), (HeldW m').cell? ⟨br, 0, none⟩ = some (.slice (some ⟨g, 0, none⟩) Z cS) := fun m' => by rw [JustW.out m']; exact hb0
                  have jc : ∀ m' : Held (JustW wr.drew), (HeldW m').cell? ⟨g2, k - 1, none⟩ = some (.string s) := fun m' => by rw [JustW.out m']; exact hcl
                  have hcg2 : wr.drew.cell? ⟨g, a, none⟩ = some (.string ((restL keep d.wet (keysD a d.wet) 0 d.sure).getD a zS)) := hcg
                  have hfg2 : wr.drew.frozen? ⟨g, a, none⟩ = false := Blk.frozen hgb a
                  have HJ := Lib.hid (show JustW wr.drew wr.drew from rfl)
                  have HP := Lib.hid (And.intro (RefS.put HX.out.2.2.1 HH.out.2.2.1.symm a s) (RefS.wetKept HX.out.2.2.1 HX.out.2.2.2.1 a (.string s)))
                  clear hcg hb0 hzs
                  go_wp2_with fail
                  refine wp_region_mixD (JustW wr.drew) [(0, true), (1, true), (2, true), (3, true), (4, true), (5, true), (6, true), (7, true), (8, true), (9, true), (10, true), (11, false)] (by kernel_rfl) (by kernel_rfl) ?_
                  simp only [pickP, List.filterMap_cons, List.filterMap_nil, List.getElem?_toArray, List.getElem?_cons_succ, List.getElem?_cons_zero, Option.map_some]
                  repeat (apply mixD_first; apply Exists.intro; refine ⟨fun m => ?_, HJ.out, ?_⟩; · (go_big_quiet_step (fail); exact wpQuiet_nil rfl))
                  refine mixD_forced HJ.out ?_
                  go_wp2_with fail
                  show mixD _ _ _ _ _ _ _
                  refine mixD_nil ?_
                  clear j0 jc hcg2 hfg2
                  go_wp2_with fail
                  go_roundw
                  case rel => exact ⟨a + 1, by omega, by go_num, by rw [HX.out.2.1]; simp, by rw [HS.out]; exact ⟨HP.out.1.ref.drew, HP.out.1.turn.drew⟩, HP.out.2⟩
                  case measure => simp [intOf]; omega
              · have hkz : kOf keep n q = 0 := by
                  rw [hke]
                  have : (max 0 kx).toNat = 0 := by omega
                  rw [this, Nat.zero_mod]
                have hs := HX.out.1
                rw [hkz, if_neg (by omega)] at hs
                have HS := Lib.hid hs; clear hs hkz hke
                go_wp2_with fail
                go_roundw
                case rel => exact ⟨a + 1, by omega, by go_num, by rw [HX.out.2.1]; simp, by rw [HS.out]; exact HX.out.2.2.1, HX.out.2.2.2.1⟩
                case measure => simp [intOf]; omega
    · obtain rfl : a = Z := by omega
      have q1 := hrs.ref.box.cell 1
      have p1 := hrs.ref.box.frozen 1
      have q3 := hrs.ref.box.cell 3
      have p3 := hrs.ref.box.frozen 3
      have q4 := hrs.ref.box.cell 4
      have p4 := hrs.ref.box.frozen 4
      simp at q1 q3 q4
      have HB := Lib.hid hrs; clear hrs hsl H0
      go_wp2_with fail
      go_end0
      have hset : ∀ k, k ≠ br → (((wo.setCell ⟨br, 1, none⟩ (.slice none 0 0)).setCell ⟨br, 4, none⟩ (.bool false)).setCell ⟨br, 3, none⟩ (.int .i64 (-1))).heap[k]? = wo.heap[k]? := fun k hk =>
        (Below.heap_setCell _ _ _ k hk).trans ((Below.heap_setCell _ _ _ k hk).trans (Below.heap_setCell _ _ _ k hk))
      have hbx := ((HB.out.ref.box.put 1 (.slice none 0 0)).put 4 (.bool false)).put 3 (.int .i64 (-1))
      have hZ := HH.out.2.2.1
      refine ⟨rfl, ⟨G, ⟨.slice AS a cS, .slice none 0 0, ⟨?_, ?_, World.ownsRow_nil _ _ _ _, HB.out.ref.inD, HB.out.ref.inS, fun g hg => (by cases hg), fun i hi => by simpa [World.setCell] using HB.out.ref.lt i hi⟩⟩, fun j hj => .inl hj⟩, ((HB.out.turn.put _ HB.out.ref.inD _).put _ HB.out.ref.inD _).put _ HB.out.ref.inD _⟩
      · simpa [Dv.restart] using hbx
      · have := own_same HB.out.ref.sure (fun g hg => hset g (HB.out.ref.neS hg))
        show World.ownsRow _ 0 9 1 _ d.size ((restL keep d.wet (keysD d.size d.wet) 0 d.sure).map Value.string)
        rw [hZ]
        rw [show ({ d with sure := restL keep d.wet (keysD a d.wet) 0 d.sure } : Dv).size = a from hZ] at this
        exact this
end
end Go.Proofs.Ytlogdionhgabdaa
