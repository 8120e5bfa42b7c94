/- Several texts, joined for the limit of sixty files; each one opens with its own comment. -/
import Derived.Test.YtcpmhjealiajpaaGreatDoorJoin18
/- The reference's live directory: done, Bytes, Put, Remove. -/
set_option linter.unusedVariables false
set_option linter.unusedSimpArgs false
namespace Go.Proofs.YtcpmhjealiajpaaGreatDoor
open Go Go.RowKit
open Sw
/-- the reference's directory in block br -/
structure RefD (w : World) (base br : Nat) (lv : Value) (s : DS) : Prop where
  box : Blk w br 58 #[lv, .int .i64 s.room, .int .i64 s.fuse, .bool s.off, .int .i64 s.ops]
  row : OwnIt w base lv s.xs
theorem RefD.below {w w' : World} {base br : Nat} {lv : Value} {s : DS} (h : RefD w base br lv s) (hb : Below w.heap.size w w') : RefD w' base br lv s := ⟨h.box.below hb h.box.lt, h.row.below hb⟩
theorem own_blk_kept {W W' : World} {base g : Nat} {t : TypeId} {cs : Array Value} {v : Value} {l : List NE} (ho : OwnIt W base v l) (hB : Blk W g t cs) (ht : 32 ≠ t) (hg : W.grownBy W' (some g)) : OwnIt W' base v l :=
  ho.kept hg (.inr (own_ne_blk ho hB ht))
set_option maxRecDepth 100000 in
set_option maxHeartbeats 4000000 in
theorem rdone_any (w : World) (base br : Nat) (A A' : Option Addr) (n n' c c' : Nat) (s : DS) (k : Nat) (why : Int) (ys : List NE) (h : RefD w base br (.slice A n c) s) (hok : s.Ok k) (hk : k ≤ 1000) (hy : why = 0 → OwnIt w base (.slice A' n' c') ys) :
    Calls Tryz.prog 74 #[.pointer (some ⟨br, 0, none⟩), .slice A' n' c', .int .i64 why] w fun e w' => e = .returned (.int .i64 (stepD s why ys).1) ∧ (∃ A2 n2 c2, RefD w' base br (.slice A2 n2 c2) (stepD s why ys).2) ∧ w.grownBy w' (some br) := by
  obtain ⟨room, fuse, ops, off, xs⟩ := s
  have hb := h.box
  have c0 := hb.cell 0
  have c2' := hb.cell 2
  have c3' := hb.cell 3
  have c4 := hb.cell 4
  have p0 := hb.frozen 0
  have p2 := hb.frozen 2
  have p3 := hb.frozen 3
  have p4 := hb.frozen 4
  simp at c0 c2' c3' c4
  obtain ⟨f0', f1', o0', o1'⟩ := hok
  simp only at f0' f1' o0' o1'
  have HH := Lib.hid (And.intro h (And.intro hb hy)); clear h hb hy
  cases off with
  | true =>
    go_enter Tryz.func74, Tryz.ntmps74
    go_wp2_with fail
    go_ret
    exact ⟨rfl, ⟨A, n, c, HH.out.1⟩, grown_refl _ _⟩
  | false =>
    by_cases hw : why = 0
    · have hwe : (why != 0) = false := by rw [hw]; rfl
      have HY := Lib.hid (HH.out.2.2 hw)
      by_cases hf : fuse = 0
      · have HE := Lib.hid (show stepD ⟨room, fuse, ops, false, xs⟩ why ys = (10, ⟨room, fuse, ops, true, xs⟩) from by unfold stepD; rw [if_neg (by simp), if_neg (by simpa using hw), if_pos hf])
        have hfe : (fuse == 0) = true := by rw [hf]; rfl
        clear hw hf
        go_enter Tryz.func74, Tryz.ntmps74
        go_wp2_with fail
        go_ret
        rw [HE.out]
        have hgg := grown_put (grown_refl w (some br)) 3 (.bool true)
        exact ⟨rfl, ⟨A, n, c, by have := HH.out.2.1.put 3 (.bool true); simpa using this, own_blk_kept HH.out.1.row HH.out.2.1 (by decide) hgg⟩, hgg⟩
      · have hfe : (fuse == 0) = false := by rw [beq_eq_false_iff_ne]; exact hf
        have hwo : IntKind.i64.wrap (ops + 1) = ops + 1 := IntWalk.i64_in _ (by omega)
        by_cases hfp : 0 < fuse
        · have hwr : IntKind.i64.wrap (fuse - 1) = fuse - 1 := IntWalk.i64_in _ (by omega)
          have HE := Lib.hid (show stepD ⟨room, fuse, ops, false, xs⟩ why ys = (0, ⟨room, fuse - 1, ops + 1, false, ys⟩) from by unfold stepD; rw [if_neg (by simp), if_neg (by simpa using hw), if_neg hf]; simp; omega)
          clear hw hf
          go_enter Tryz.func74, Tryz.ntmps74
          go_wp2_with fail
          go_ret
          rw [HE.out]
          have hgg := grown_put (grown_put (grown_put (grown_refl w (some br)) 2 (.int .i64 (fuse - 1))) 4 (.int .i64 (ops + 1))) 0 (.slice A' n' c')
          exact ⟨rfl, ⟨A', n', c', by have := ((HH.out.2.1.put 2 (.int .i64 (fuse - 1))).put 4 (.int .i64 (ops + 1))).put 0 (.slice A' n' c'); simpa using this, own_blk_kept HY.out HH.out.2.1 (by decide) hgg⟩, hgg⟩
        · have hfm : fuse = -1 := by omega
          have HE := Lib.hid (show stepD ⟨room, fuse, ops, false, xs⟩ why ys = (0, ⟨room, fuse, ops + 1, false, ys⟩) from by unfold stepD; rw [if_neg (by simp), if_neg (by simpa using hw), if_neg hf]; simp; omega)
          clear hw hf hfm
          go_enter Tryz.func74, Tryz.ntmps74
          go_wp2_with fail
          go_ret
          rw [HE.out]
          have hgg := grown_put (grown_put (grown_refl w (some br)) 4 (.int .i64 (ops + 1))) 0 (.slice A' n' c')
          exact ⟨rfl, ⟨A', n', c', by have := (HH.out.2.1.put 4 (.int .i64 (ops + 1))).put 0 (.slice A' n' c'); simpa using this, own_blk_kept HY.out HH.out.2.1 (by decide) hgg⟩, hgg⟩
    · have hwe : (why != 0) = true := by rw [bne_iff_ne]; exact hw
      have HE := Lib.hid (show stepD ⟨room, fuse, ops, false, xs⟩ why ys = (why, ⟨room, fuse, ops, false, xs⟩) from by unfold stepD; rw [if_neg (by simp), if_pos hw])
      clear hw
      go_enter Tryz.func74, Tryz.ntmps74
      go_wp2_with fail
      go_ret
      rw [HE.out]
      exact ⟨rfl, ⟨A, n, c, HH.out.1⟩, grown_refl _ _⟩
set_option maxRecDepth 100000 in
set_option maxHeartbeats 4000000 in
theorem rbytes_any (w : World) (v : Value) (l : List NE) (h : SlV w 5 eCSN v l) (hby : bytesT l ≤ 1000000000) :
    Calls Tryz.prog 45 #[v] w fun e w' => e = .returned (.int .i64 (bytesT l)) ∧ Below w.heap.size w w' := by
  obtain ⟨A, c, rfl, hc1, hc2, hsl⟩ := h
  obtain ⟨n, hn⟩ : ∃ n, l.length = n := ⟨_, rfl⟩
  rw [hn] at hc1 ⊢
  unfold maxLen at hc2
  have HL := Lib.hid (And.intro hn hsl); clear hn hsl
  have HBY := Lib.hid hby; clear hby
  go_enter Tryz.func45, Tryz.ntmps45
  go_wp2_with fail
  go_loopw [3, 8] (fun sv iv wr => ∃ i : Nat, i ≤ n ∧ iv = .int .i64 i ∧ sv = .int .i64 (bytesT (l.take i)) ∧ Below w.heap.size w wr) (fun _ iv _ => n - (intOf iv).toNat)
  case atStart => exact ⟨0, Nat.zero_le _, rfl, rfl, Below.refl _ _⟩
  case round =>
    obtain ⟨i, hi, rfl, rfl, hb⟩ := hrel
    by_cases hlt : i < n
    · have hiL : i < l.length := by rw [HL.out.1]; exact hlt
      obtain ⟨b, off, rfl, hbb, hcs⟩ := (HL.out.2.below hb (Nat.le_refl _)) (by omega)
      have c0 := hcs i hiL 0 (by omega)
      have c1 := hcs i hiL 1 (by omega)
      have c2 := hcs i hiL 2 (by omega)
      have c3' := hcs i hiL 3 (by omega)
      have c4 := hcs i hiL 4 (by omega)
      simp only [eCSN, List.getElem?_cons_succ, List.getElem?_cons_zero, Nat.add_zero] at c0 c1 c2 c3' c4
      clear hcs
      have hi1 : (i : Int) < n := by omega
      have hsum := bytesT_step l i hiL
      have hle : bytesT (l.take (i + 1)) ≤ 1000000000 := Nat.le_trans (bytesT_pre (List.take_prefix _ _)) HBY.out
      obtain ⟨x, hx⟩ : ∃ x, l[i] = x := ⟨_, rfl⟩
      simp only [hx] at c0 c1 c2 c3' c4 hsum
      clear hx
      obtain ⟨S, hS⟩ : ∃ S, bytesT (l.take i) = S := ⟨_, rfl⟩
      rw [hS] at hsum
      rw [hS]
      rw [hsum] at hle
      have HS := Lib.hid hsum; clear hS hsum
      have hwrap : IntKind.i64.wrap ((S : Int) + (x.2.data.size : Int)) = (S : Int) + (x.2.data.size : Int) := IntWalk.i64_in _ (by omega)
      have HB := Lib.hid (hb.alloc hb.size (.cells #[.string x.1, .int .i64 x.2.kind, .int .i64 x.2.mode, .int .u32 x.2.time, .string x.2.data] 32)); clear hb
      go_wp2_with fail
      go_roundw
      case rel => exact ⟨i + 1, by omega, by go_num, by rw [HS.out]; exact congrArg (Value.int .i64) (by first | omega | (rw [hwrap]; omega)), HB.out⟩
      case measure => simp [intOf]; omega
    · obtain rfl : n = i := by omega
      rw [List.take_of_length_le (by rw [HL.out.1]; omega)]
      have HB := Lib.hid hb; clear hb
      go_wp2_with fail
      go_ret
      exact ⟨rfl, HB.out⟩
set_option maxRecDepth 100000 in
set_option maxHeartbeats 4000000 in
theorem rremove_any (w : World) (base br : Nat) (lv : Value) (s : DS) (k : Nat) (p : ByteArray) (h : RefD w base br lv s) (hB : base ≤ w.heap.size) (hok : s.Ok k) (hk : k ≤ 1000) (hr : RowOk 900 s.xs) :
    Calls Tryz.prog 34 #[.pointer (some ⟨br, 0, none⟩), .string p] w fun e w' => e = .returned (.int .i64 (stepD s (whyDrop s.xs p) (dropT s.xs p)).1) ∧ (∃ A2 n2 c2, RefD w' base br (.slice A2 n2 c2) (stepD s (whyDrop s.xs p) (dropT s.xs p)).2) ∧ w.grownBy w' (some br) := by
  have HDR := Lib.hid (ref16Drop_any w base lv s.xs p h.row hB hr.ti.up hr.ti.paths (by have := hr.len; omega) (fun e he => by have := hr.size e he; omega))
  have c0 := h.box.cell 0
  simp at c0
  obtain ⟨A, c, rfl, _, _, _⟩ := SlV_of_any h.row
  obtain ⟨n, hn⟩ : ∃ n, s.xs.length = n := ⟨_, rfl⟩
  rw [hn] at c0 h HDR
  have HH := Lib.hid (And.intro h hok); clear h hn hr hok
  go_enter Tryz.func34, Tryz.ntmps34
  go_wp2_with fail
  refine HDR.out.mono ?_
  rintro e w1 ⟨r, rfl, ho, hb1⟩
  obtain ⟨A1, c1, rfl, _, _, _⟩ := SlV_of_any ho
  have HDN := Lib.hid (rdone_any w1 base br A A1 n (dropT s.xs p).length c c1 s k (whyDrop s.xs p) (dropT s.xs p) (HH.out.1.below hb1) HH.out.2 hk (fun _ => ho))
  have HB := Lib.hid (grown_below hb1 : w.grownBy w1 (some br)); clear ho hb1 HDR c0
  go_wp2_with fail
  refine HDN.out.mono ?_
  rintro e w2 ⟨rfl, ⟨A2, n2, c2, hd⟩, hg⟩
  have HF := Lib.hid (And.intro hd (grown_trans HB.out hg)); clear hd hg HDN
  go_wp2_with fail
  go_ret
  exact ⟨rfl, ⟨A2, n2, c2, HF.out.1⟩, HF.out.2⟩
end Go.Proofs.YtcpmhjealiajpaaGreatDoor
/- The reference's live directory: Put, Clear. -/
set_option linter.unusedVariables false
set_option linter.unusedSimpArgs false
namespace Sw
open Go.Proofs.YtcpmhjealiajpaaGreatDoor (awayT undT)
theorem clear_len {xs : List NE} (h : TI xs) (p : ByteArray) : (xs.filter (awayT p)).length = xs.length ↔ clearW xs p = 7 := by
  have hp := filter_parts (awayT p) xs
  have hu : (xs.filter fun x => !awayT p x) = undT p xs := rfl
  rw [hu] at hp
  unfold clearW
  by_cases hk : (getT xs p).kind = 0
  · rw [if_pos hk]
    have hc : ¬ clearW xs p = 0 := by unfold clearW; rw [if_pos hk]; decide
    have := ((clear_after h p).2 hc).2
    rw [this, List.length_nil] at hp
    exact ⟨fun _ => rfl, fun _ => by omega⟩
  · rw [if_neg hk]
    have hm := getT_kind h.up hk
    have hun : (p, getT xs p) ∈ undT p xs := (und_iff p xs _).2 ⟨hm, .inl rfl⟩
    have hpos := List.length_pos_of_mem hun
    exact ⟨fun e => by omega, fun e => absurd e (by decide)⟩
end Sw
namespace Go.Proofs.YtcpmhjealiajpaaGreatDoor
open Go Go.RowKit
open Sw
set_option maxRecDepth 100000 in
set_option maxHeartbeats 8000000 in
theorem rput_any (w : World) (base br : Nat) (lv : Value) (s : DS) (k : Nat) (p : ByteArray) (nd : Nd) (h : RefD w base br lv s) (hB : base ≤ w.heap.size) (hok : s.Ok k) (hk : k ≤ 1000) (hr : RowOk 900 s.xs) (hp : p.size ≤ 90000) (hin : NdIn nd) (hsm : nd.data.size ≤ 500) :
    Calls Tryz.prog 32 #[.pointer (some ⟨br, 0, none⟩), .string p, .agg nd.c] w fun e w' => e = .returned (.int .i64 (stepD s (putW s.room s.xs p nd) (putT s.xs p nd)).1) ∧ (∃ A2 n2 c2, RefD w' base br (.slice A2 n2 c2) (stepD s (putW s.room s.xs p nd) (putT s.xs p nd)).2) ∧ w.grownBy w' (some br) := by
  have hba := (Below.refl w.heap.size w).alloc (Nat.le_refl _) (.cells nd.c 30)
  have hbN := Blk.new w 30 nd.c
  obtain ⟨W1, hW1⟩ : ∃ W1, w.alloc (.cells nd.c 30) = W1 := ⟨_, rfl⟩
  obtain ⟨N, hN⟩ : ∃ N, w.heap.size = N := ⟨_, rfl⟩
  rw [hW1] at hba hbN
  rw [hN] at hbN
  have h1 := h.below hba
  have hbd := (Below.refl W1.heap.size W1).drew
  have hP := ref16Put_any W1.drew base lv s.xs p nd (h1.below hbd).row (Nat.le_trans hB (hba.trans (hbd.mono hba.size)).size) hr.ti.up hr.ti.paths (by have := hr.len; omega) (fun e he => by have := hr.size e he; omega) hp hin.t0 hin.t1 hin.size
  have HBB := Lib.hid (show bytesT (putT s.xs p nd) ≤ 1000000000 from by have := (hr.put p hin hsm).bytes; omega)
  obtain ⟨room, fuse, ops, off, xs⟩ := s
  simp only at hP HBB h1 hok
  have HE := Lib.hid (show putW room xs p nd = if ¬ mayT xs p nd = 0 then mayT xs p nd else fitsW room (putT xs p nd) from rfl)
  obtain ⟨A, c, rfl, _, _, _⟩ := SlV_of_any h1.row
  obtain ⟨n, hn⟩ : ∃ n, xs.length = n := ⟨_, rfl⟩
  have hbx : Blk W1 br 58 #[.slice A n c, .int .i64 room, .int .i64 fuse, .bool off, .int .i64 ops] := by have := h1.box; simp only at this; rw [hn] at this; exact this
  rw [hn] at h1 hP
  have hl1 := hbx.lt
  have hlN := hbN.lt
  have k0 : ∀ m : Held (Aft W1), (HeldW m).cell? ⟨br, 0, none⟩ = some (.slice A n c) := fun m => (Aft.cell m hl1).trans (hbx.cell 0)
  have k1 : ∀ m : Held (Aft W1), (HeldW m).cell? ⟨N, 0, none⟩ = some (.int .i64 nd.kind) := fun m => (Aft.cell m hlN).trans (hbN.cell 0)
  have k2 : ∀ m : Held (Aft W1), (HeldW m).cell? ⟨N, 1, none⟩ = some (.int .i64 nd.mode) := fun m => (Aft.cell m hlN).trans (hbN.cell 1)
  have k3 : ∀ m : Held (Aft W1), (HeldW m).cell? ⟨N, 2, none⟩ = some (.int .u32 nd.time) := fun m => (Aft.cell m hlN).trans (hbN.cell 2)
  have k4 : ∀ m : Held (Aft W1), (HeldW m).cell? ⟨N, 3, none⟩ = some (.string nd.data) := fun m => (Aft.cell m hlN).trans (hbN.cell 3)
  have HP := Lib.hid hP
  have HC0 := Lib.hid (Aft.start W1)
  have HW1 := Lib.hid (And.intro hW1 hN)
  have H1 := Lib.hid (And.intro h1 (And.intro hbx (And.intro hok (grown_below hba : w.grownBy W1 (some br)))))
  clear hba hbN hW1 hN h1 hP hr hin hsm hok hbx hn h hbd
  generalize putW room xs p nd = ans at *
  generalize mayT xs p nd = why at *
  generalize putT xs p nd = ys at *
  obtain ⟨kd, md, tm, dt⟩ := nd
  simp only [Nd.c] at HP HW1 k1 k2 k3 k4
  go_enter Tryz.func32, Tryz.ntmps32
  simp only [Nd.c]
  go_wp2_with fail
  rw [HW1.out.1, HW1.out.2]
  refine wp_region_mix (Aft W1) [(0, true), (1, true), (2, true), (3, true), (4, true), (5, true), (6, false), (7, true), (8, true), (9, true), (10, true), (11, true)] (by kernel_rfl) (by kernel_rfl) ?_
  simp only [pickP, List.filterMap_cons, List.filterMap_nil, List.getElem?_toArray, List.getElem?_cons_succ, List.getElem?_cons_zero, Option.map_some]
  repeat (apply mix_first; apply Exists.intro; refine ⟨fun m => ?_, HC0.out, ?_⟩; · (go_big_quiet_step (fail); exact wpQuiet_nil rfl))
  refine mix_forced HC0.out ?_
  go_wp2_with fail
  refine HP.out.mono ?_
  rintro e w2 ⟨r, rfl, ho, hb2⟩
  obtain ⟨A1, c1, rfl, _, _, _⟩ := SlV_of_any ho
  obtain ⟨n1, hn1⟩ : ∃ n1, ys.length = n1 := ⟨_, rfl⟩
  rw [hn1] at ho
  rw [hn1]
  have HC2 := Lib.hid (Aft.keep _ _ HC0.out hb2)
  have hbW : Below W1.heap.size W1 w2 := HC2.out
  have H2 := Lib.hid (And.intro (H1.out.1.below hbW) (And.intro (H1.out.2.1.below hbW H1.out.2.1.lt) (And.intro ho (grown_trans H1.out.2.2.2 (grown_below hbW)))))
  have hok := H1.out.2.2.1
  have HOK := Lib.hid hok
  clear hn1 ho hb2 hbW HP H1 hok
  go_wp2_with fail
  show mixC _ _ _ _ _ _ _
  repeat (apply mix_first; apply Exists.intro; refine ⟨fun m => ?_, HC2.out, ?_⟩; · (go_big_quiet_step (fail); exact wpQuiet_nil rfl))
  refine mix_nil HC2.out ?_
  clear k0 k1 k2 k3 k4 HC2 HC0
  have hl2 := H2.out.2.1.lt
  have j1 : ∀ m : Held (Aft w2), (HeldW m).cell? ⟨br, 1, none⟩ = some (.int .i64 room) := fun m => (Aft.cell m hl2).trans (H2.out.2.1.cell 1)
  have HBY := Lib.hid (fun m : Held (Aft w2) => rbytes_any (HeldW m) (.slice A1 n1 c1) ys ((OwnIt.below H2.out.2.2.1 (HeldW_spec m)).slv) HBB.out)
  obtain ⟨S, hS⟩ : ∃ S, bytesT ys = S := ⟨_, rfl⟩
  rw [hS] at HBY
  have HSS := Lib.hid hS; clear hS
  haveI := Aft.some w2
  have HDN := Lib.hid (fun W (hb : Below w2.heap.size w2 W) (why' : Int) => rdone_any W base br A A1 n n1 c c1 ⟨room, fuse, ops, off, xs⟩ k why' ys (H2.out.1.below hb) HOK.out hk (fun _ => OwnIt.below H2.out.2.2.1 hb))
  by_cases hw : why = 0
  · have hwe : (why == 0) = true := by rw [hw]; rfl
    have HA1 := Lib.hid (show ans = fitsW room ys from by rw [HE.out, if_neg (by simpa using hw)])
    by_cases h0 : 0 ≤ room
    · by_cases hs : room < (S : Int)
      · have HA2 := Lib.hid (show ans = 9 from by rw [HA1.out]; unfold fitsW; rw [HSS.out, if_pos ⟨h0, hs⟩])
        clear hw
        go_wp2_with fail
        refine wp_region_class (Aft w2) (by kernel_rfl) (by kernel_rfl) (Aft.start w2) ?_
        repeat (go_big_quiet_step (with_reducible exact held_below Aft.keep (HBY.out _)))
        refine wpQuiet_nil ?_
        rintro _ ⟨nn, rfl⟩
        have HDW := Lib.hid (HDN.out (HeldW nn) (HeldW_spec nn) 9)
        have HGW := Lib.hid (grown_trans H2.out.2.2.2 (grown_below (HeldW_spec nn : Below w2.heap.size w2 (HeldW nn))) : w.grownBy (HeldW nn) (some br))
        go_wp2_with fail
        refine HDW.out.mono ?_
        rintro e w4 ⟨rfl, ⟨A4, n4, c4, hd4⟩, hg4⟩
        have HF := Lib.hid (And.intro hd4 (grown_trans HGW.out hg4)); clear hd4 hg4 HDW
        go_wp2_with fail
        go_ret
        rw [HA2.out]
        exact ⟨rfl, ⟨A4, n4, c4, HF.out.1⟩, HF.out.2⟩
      · have HA2 := Lib.hid (show ans = 0 from by rw [HA1.out]; unfold fitsW; rw [HSS.out, if_neg (fun h => hs h.2)])
        have hs2 : (S : Int) ≤ room := by omega
        have HW0 := Lib.hid hw; clear hw
        go_wp2_with fail
        refine wp_region_class (Aft w2) (by kernel_rfl) (by kernel_rfl) (Aft.start w2) ?_
        repeat (go_big_quiet_step (with_reducible exact held_below Aft.keep (HBY.out _)))
        refine wpQuiet_nil ?_
        rintro _ ⟨nn, rfl⟩
        have HDW := Lib.hid (HDN.out (HeldW nn) (HeldW_spec nn) why)
        have HGW := Lib.hid (grown_trans H2.out.2.2.2 (grown_below (HeldW_spec nn : Below w2.heap.size w2 (HeldW nn))) : w.grownBy (HeldW nn) (some br))
        go_wp2_with fail
        refine HDW.out.mono ?_
        rintro e w4 ⟨rfl, ⟨A4, n4, c4, hd4⟩, hg4⟩
        have HF := Lib.hid (And.intro hd4 (grown_trans HGW.out hg4)); clear hd4 hg4 HDW
        go_wp2_with fail
        go_ret
        rw [HA2.out, ← HW0.out]
        exact ⟨rfl, ⟨A4, n4, c4, HF.out.1⟩, HF.out.2⟩
    · have HA2 := Lib.hid (show ans = 0 from by rw [HA1.out]; unfold fitsW; rw [if_neg (fun h => h0 h.1)])
      have h02 : decide (0 ≤ room) = false := decide_eq_false h0
      have HW0 := Lib.hid hw; clear hw
      go_wp2_with fail
      refine wp_region_class (Aft w2) (by kernel_rfl) (by kernel_rfl) (Aft.start w2) ?_
      repeat (go_big_quiet_step (with_reducible exact held_below Aft.keep (HBY.out _)))
      refine wpQuiet_nil ?_
      rintro _ ⟨nn, rfl⟩
      have HDW := Lib.hid (HDN.out (HeldW nn) (HeldW_spec nn) why)
      have HGW := Lib.hid (grown_trans H2.out.2.2.2 (grown_below (HeldW_spec nn : Below w2.heap.size w2 (HeldW nn))) : w.grownBy (HeldW nn) (some br))
      go_wp2_with fail
      refine HDW.out.mono ?_
      rintro e w4 ⟨rfl, ⟨A4, n4, c4, hd4⟩, hg4⟩
      have HF := Lib.hid (And.intro hd4 (grown_trans HGW.out hg4)); clear hd4 hg4 HDW
      go_wp2_with fail
      go_ret
      rw [HA2.out, ← HW0.out]
      exact ⟨rfl, ⟨A4, n4, c4, HF.out.1⟩, HF.out.2⟩
  · have hwe : (why == 0) = false := by rw [beq_eq_false_iff_ne]; exact hw
    have HA2 := Lib.hid (show ans = why from by rw [HE.out, if_pos hw]); clear hw
    go_wp2_with fail
    refine wp_region_class (Aft w2) (by kernel_rfl) (by kernel_rfl) (Aft.start w2) ?_
    repeat (go_big_quiet_step (with_reducible exact held_below Aft.keep (HBY.out _)))
    refine wpQuiet_nil ?_
    rintro _ ⟨nn, rfl⟩
    have HDW := Lib.hid (HDN.out (HeldW nn) (HeldW_spec nn) why)
    have HGW := Lib.hid (grown_trans H2.out.2.2.2 (grown_below (HeldW_spec nn : Below w2.heap.size w2 (HeldW nn))) : w.grownBy (HeldW nn) (some br))
    go_wp2_with fail
    refine HDW.out.mono ?_
    rintro e w4 ⟨rfl, ⟨A4, n4, c4, hd4⟩, hg4⟩
    have HF := Lib.hid (And.intro hd4 (grown_trans HGW.out hg4)); clear hd4 hg4 HDW
    go_wp2_with fail
    go_ret
    rw [HA2.out]
    exact ⟨rfl, ⟨A4, n4, c4, HF.out.1⟩, HF.out.2⟩
end Go.Proofs.YtcpmhjealiajpaaGreatDoor
/- The reference's live directory: Clear. -/
set_option linter.unusedVariables false
set_option linter.unusedSimpArgs false
namespace Sw
open Go.Proofs.YtcpmhjealiajpaaGreatDoor (awayT undT)
theorem away_step (p : ByteArray) (l : List NE) (i : Nat) (h : i < l.length) : (l.take (i + 1)).filter (awayT p) = (l.take i).filter (awayT p) ++ if awayT p l[i] = true then [l[i]] else [] := by
  rw [List.take_succ_eq_append_getElem h, List.filter_append]
  congr 1
  cases h2 : awayT p l[i] <;> simp [h2]
end Sw
namespace Go.Proofs.YtcpmhjealiajpaaGreatDoor
open Go Go.RowKit
open Sw
set_option maxRecDepth 100000 in
set_option maxHeartbeats 8000000 in
theorem rclear_any (w : World) (base br : Nat) (lv : Value) (s : DS) (k : Nat) (p : ByteArray) (h : RefD w base br lv s) (hB : base ≤ w.heap.size) (hok : s.Ok k) (hk : k ≤ 1000) (hr : RowOk 900 s.xs) :
    Calls Tryz.prog 35 #[.pointer (some ⟨br, 0, none⟩), .string p] w fun e w' => e = .returned (.int .i64 (stepD s (clearW s.xs p) (s.xs.filter (awayT p))).1) ∧ (∃ A2 n2 c2, RefD w' base br (.slice A2 n2 c2) (stepD s (clearW s.xs p) (s.xs.filter (awayT p))).2) ∧ w.grownBy w' (some br) := by
  obtain ⟨room, fuse, ops, off, xs⟩ := s
  simp only at hr hok ⊢
  obtain ⟨A, c, rfl, hc1, hc2, _⟩ := SlV_of_any h.row
  obtain ⟨A', c', ex, -, -, hsl⟩ := h.row.slv
  obtain ⟨rfl, rfl⟩ : A = A' ∧ c = c' := by injection ex with a b c; exact ⟨a, c⟩
  obtain ⟨n, hn⟩ : ∃ n, xs.length = n := ⟨_, rfl⟩
  simp only [hn] at h hc1
  clear ex
  unfold maxLen at hc2
  have c0 := h.box.cell 0
  simp at c0
  have HL := Lib.hid (And.intro hn (And.intro hsl hr))
  have hn900 : n ≤ 900 := by have := hr.len; rw [hn] at this; exact this
  have hcl := clear_len hr.ti p
  have hcw : clearW xs p = 7 ∨ clearW xs p = 0 := by unfold clearW; split; exact .inl rfl; exact .inr rfl
  have HCL := Lib.hid (And.intro hcl hcw)
  have HH := Lib.hid (And.intro h (And.intro h.box hok)); clear hn hsl hr h hok hcl hcw
  go_enter Tryz.func35, Tryz.ntmps35
  go_wp2_with fail
  clear c0
  go_loopw [5, 13] (fun ov iv wr => ∃ i : Nat, i ≤ n ∧ iv = .int .i64 i ∧ OwnIt wr w.heap.size ov ((xs.take i).filter (awayT p)) ∧ Below w.heap.size w wr) (fun _ iv _ => n - (intOf iv).toNat)
  case atStart => exact ⟨0, Nat.zero_le _, rfl, World.ownsRow_nil _ _ _ _, Below.refl _ _⟩
  case round =>
    obtain ⟨i, hi, rfl, ho, hb⟩ := hrel
    obtain ⟨Au, cu, rfl, huc1, huc2, _⟩ := SlV_of_any ho
    by_cases hlt : i < n
    · have hiL : i < xs.length := by rw [HL.out.1]; exact hlt
      obtain ⟨b, off2, rfl, hbb, hcs⟩ := (HL.out.2.1.below hb (Nat.le_refl _)) (by omega)
      have c0 := hcs i hiL 0 (by omega)
      have c1 := hcs i hiL 1 (by omega)
      have c2 := hcs i hiL 2 (by omega)
      have c3' := hcs i hiL 3 (by omega)
      have c4 := hcs i hiL 4 (by omega)
      simp only [eCSN, List.getElem?_cons_succ, List.getElem?_cons_zero, Nat.add_zero] at c0 c1 c2 c3' c4
      clear hcs
      have hi1 : (i : Int) < n := by omega
      have hqs := HL.out.2.2.size xs[i] (List.getElem_mem hiL)
      have hst := away_step p xs i hiL
      have hul : ((xs.take i).filter (awayT p)).length ≤ 900 := Nat.le_trans (List.length_filter_le _ _) (by rw [List.length_take]; omega)
      have haw : awayT p xs[i] = (!decide (xs[i].1 = p) && !inS (upsS xs[i].1) p) := rfl
      obtain ⟨⟨q, kd, md, tm, dt⟩, hx⟩ : ∃ x, xs[i] = x := ⟨_, rfl⟩
      simp only [hx] at c0 c1 c2 c3' c4 hqs hst haw
      clear hx
      obtain ⟨L, hLL⟩ : ∃ L, (xs.take i).filter (awayT p) = L := ⟨_, rfl⟩
      rw [hLL] at hst ho hul huc1
      rw [hLL]
      clear hLL
      obtain ⟨mu, hmu⟩ : ∃ mu, L.length = mu := ⟨_, rfl⟩
      have hR1 : wr.ownsRow w.heap.size 32 5 (.slice Au mu cu) mu (L.flatMap eCSN) := by have := ho; unfold OwnIt at this; rw [hmu] at this; exact this
      rw [hmu] at hul huc1
      rw [hmu]
      have HSU := Lib.hid (And.intro hst (And.intro haw hmu))
      have HR := Lib.hid (And.intro hR1 hb)
      have hgW : w.heap.size ≤ wr.heap.size := hb.size
      have hse := str_eq q p
      have hbN := Blk.new wr 32 #[.string q, .int .i64 kd, .int .i64 md, .int .u32 tm, .string dt]
      have HBN := Lib.hid hbN
      have HBA := Lib.hid ((Below.refl wr.heap.size wr).alloc (Nat.le_refl _) (.cells #[.string q, .int .i64 kd, .int .i64 md, .int .u32 tm, .string dt] 32))
      have HRU := Lib.hid (fun W => ref16Under_any W p q (by omega))
      clear hst haw hmu hR1 hb ho hbN
      by_cases hqP : q = p
      · rw [decide_eq_true hqP] at hse
        have hse2 : (!(q.toList == p.toList)) = false := by rw [hse]; rfl
        have HF1 := Lib.hid (show (xs.take (i + 1)).filter (awayT p) = L from by rw [HSU.out.1, HSU.out.2.1, decide_eq_true hqP]; simp)
        clear hqP
        go_wp2_with fail
        go_roundw
        case rel => exact ⟨i + 1, by omega, by go_num, by rw [HF1.out]; unfold OwnIt; rw [HSU.out.2.2]; exact HR.out.1.alloc _, HR.out.2.trans (HBA.out.mono hgW)⟩
        case measure => simp [intOf]; omega
      · rw [decide_eq_false hqP] at hse
        have hse2 : (!(q.toList == p.toList)) = true := by rw [hse]; rfl
        have HAW := Lib.hid (show awayT p (q, ⟨kd, md, tm, dt⟩) = !inS (upsS q) p from by rw [HSU.out.2.1, decide_eq_false hqP]; rfl)
        generalize inS (upsS q) p = Q at *
        clear hqP
        go_wp2_with fail
        refine (HRU.out _).mono ?_
        rintro e w3 ⟨rfl, hb3⟩
        have hN3 := HBN.out.below hb3 HBN.out.lt
        have hR3 := own_kept (HR.out.1.alloc _) hb3
        have hb3' := HR.out.2.trans ((HBA.out.trans (hb3.mono HBA.out.size)).mono hgW)
        have hg3 : w.heap.size ≤ w3.heap.size := hb3'.size
        have z0 := hN3.cell 0
        have z1 := hN3.cell 1
        have z2 := hN3.cell 2
        have z3 := hN3.cell 3
        have z4 := hN3.cell 4
        simp at z0 z1 z2 z3 z4
        have H3 := Lib.hid (And.intro hR3 hb3'); clear hN3 hR3 hb3' hb3 HBN HBA HRU
        cases Q with
        | true =>
          have HF1 := Lib.hid (show (xs.take (i + 1)).filter (awayT p) = L from by rw [HSU.out.1, HAW.out]; simp)
          go_wp2_with fail
          go_roundw
          case rel => exact ⟨i + 1, by omega, by go_num, by rw [HF1.out]; unfold OwnIt; rw [HSU.out.2.2]; exact H3.out.1, H3.out.2⟩
          case measure => simp [intOf]; omega
        | false =>
          have HF1 := Lib.hid (show (xs.take (i + 1)).filter (awayT p) = L ++ [(q, ⟨kd, md, tm, dt⟩)] from by rw [HSU.out.1, HAW.out]; rfl)
          have HB12 := Lib.hid (show Below w3.heap.size w3 (w3.alloc (.cells #[.string q, .int .i64 kd, .int .i64 md, .int .u32 tm, .string dt] 32)) from (Below.refl _ _).alloc (Nat.le_refl _) _)
          go_wp2_with (at_builtin; refine wpList_app rfl _ _ 22 rfl w.heap.size 32 (.agg #[.string ⟨#[]⟩, .int .i64 0, .int .i64 0, .int .u32 0, .string ⟨#[]⟩]) 5 56 Tryz.underlying22 infoIt rfl (by decide) _ mu _ rfl (H3.out.1.alloc _) w3.heap.size 1 #[.string q, .int .i64 kd, .int .i64 md, .int .u32 tm, .string dt] 32 rfl (Blk.new _ _ _) rfl (by simp [Value.oneCell']) (by omega) (by decide) (by simp; omega) _ rfl ?_; intro g cap w5 hown1 hgrow1 hat hlt1; have HA := Lib.hid (And.intro hown1 hgrow1); clear hown1 hgrow1 hat hlt1)
          go_roundw
          case rel => exact ⟨i + 1, by omega, by go_num, by rw [HF1.out]; exact OwnIt.app HA.out.1 HSU.out.2.2, (H3.out.2.trans (HB12.out.mono hg3)).grown HA.out.2 (Nat.le_trans hg3 HB12.out.size) (fun k hk => (H3.out.1.lt k hk).1)⟩
          case measure => simp [intOf]; omega
    · obtain rfl : n = i := by omega
      rw [List.take_of_length_le (by rw [HL.out.1]; omega)] at ho huc1 ⊢
      have hb0 := HH.out.1.below hb
      have x0 := hb0.box.cell 0
      simp at x0
      obtain ⟨m, hm⟩ : ∃ m, (xs.filter (awayT p)).length = m := ⟨_, rfl⟩
      have hiff := HCL.out.1
      rw [HL.out.1, hm] at hiff
      have hw := own_wide ho hB
      rw [hm] at huc1
      have hw2 := hw
      unfold OwnIt at hw2
      rw [hm] at hw2
      rw [hm]
      have HD7 := Lib.hid (rdone_any wr base br A none n 0 c 0 ⟨room, fuse, ops, off, xs⟩ k 7 (xs.filter (awayT p)) hb0 HH.out.2.2 hk (fun h => absurd h (by decide)))
      have HD0 := Lib.hid (rdone_any wr base br A Au n m c cu ⟨room, fuse, ops, off, xs⟩ k 0 (xs.filter (awayT p)) hb0 HH.out.2.2 hk (fun _ => by unfold OwnIt; rw [hm]; exact hw2))
      have HG := Lib.hid (grown_below hb : w.grownBy wr (some br))
      have HIF := Lib.hid hiff
      clear hb hb0 ho hw hw2 hiff hm
      by_cases hmn : m = n
      · have hme : ((m : Int) == n) = true := by rw [beq_iff_eq]; omega
        have HC := Lib.hid (HIF.out.1 hmn); clear hmn
        go_wp2_with fail
        refine HD7.out.mono ?_
        rintro e w4 ⟨rfl, ⟨A4, n4, c4, hd4⟩, hg4⟩
        have HF := Lib.hid (And.intro hd4 (grown_trans HG.out hg4)); clear hd4 hg4 HD7
        go_wp2_with fail
        go_ret
        rw [HC.out]
        exact ⟨rfl, ⟨A4, n4, c4, HF.out.1⟩, HF.out.2⟩
      · have hme : ((m : Int) == n) = false := by rw [beq_eq_false_iff_ne]; omega
        have HC := Lib.hid (HCL.out.2.resolve_left (fun h => hmn (HIF.out.2 h))); clear hmn
        go_wp2_with fail
        refine HD0.out.mono ?_
        rintro e w4 ⟨rfl, ⟨A4, n4, c4, hd4⟩, hg4⟩
        have HF := Lib.hid (And.intro hd4 (grown_trans HG.out hg4)); clear hd4 hg4 HD0
        go_wp2_with fail
        go_ret
        rw [HC.out]
        exact ⟨rfl, ⟨A4, n4, c4, HF.out.1⟩, HF.out.2⟩
end Go.Proofs.YtcpmhjealiajpaaGreatDoor
/- The reference's live directory: Graft. -/
set_option linter.unusedVariables false
set_option linter.unusedSimpArgs false
namespace Go.Proofs.YtcpmhjealiajpaaGreatDoor
open Go Go.RowKit
open Sw
set_option maxRecDepth 100000 in
set_option maxHeartbeats 16000000 in
theorem rgraft_any (w : World) (base br : Nat) (lv : Value) (s : DS) (k : Nat) (p : ByteArray) (v : Value) (l : List NE) (h : RefD w base br lv s) (hB : base ≤ w.heap.size) (hok : s.Ok k) (hk : k ≤ 1000) (hr : RowOk 800 s.xs)
    (hl : l.length ≤ 2) (hin : ∀ x ∈ l, x.1.size ≤ 90000 ∧ NdIn x.2 ∧ x.2.data.size ≤ 500) (hv : SlV w 5 eCSN v l) :
    Calls Tryz.prog 39 #[.pointer (some ⟨br, 0, none⟩), .string p, v] w fun e w' => e = .returned (.int .i64 (stepD s (graftW s.room s.xs p l).1 (graftW s.room s.xs p l).2).1) ∧ (∃ A2 n2 c2, RefD w' base br (.slice A2 n2 c2) (stepD s (graftW s.room s.xs p l).1 (graftW s.room s.xs p l).2).2) ∧ w.grownBy w' (some br) := by
  obtain ⟨room, fuse, ops, off, xs⟩ := s
  simp only at hr hok ⊢
  obtain ⟨A, c, rfl, hc1, hc2, _⟩ := SlV_of_any h.row
  obtain ⟨A', c', ex, -, -, hsl⟩ := h.row.slv
  obtain ⟨rfl, rfl⟩ : A = A' ∧ c = c' := by injection ex with a b c; exact ⟨a, c⟩
  obtain ⟨n, hn⟩ : ∃ n, xs.length = n := ⟨_, rfl⟩
  simp only [hn] at h hc1
  clear ex
  unfold maxLen at hc2
  obtain ⟨Ai, ci, rfl, hi1, hi2, hsi⟩ := hv
  obtain ⟨ni, hni⟩ : ∃ ni, l.length = ni := ⟨_, rfl⟩
  rw [hni] at hi1 hl ⊢
  unfold maxLen at hi2
  have HI := Lib.hid (And.intro hni (And.intro hsi hin))
  have HGW := Lib.hid (show graftW room xs p l = (if l.any (awayT p) = true then ((1 : Int), xs) else if (putsT (xs.filter (awayT p)) l).1 = 0 then (fitsW room (putsT (xs.filter (awayT p)) l).2, (putsT (xs.filter (awayT p)) l).2) else putsT (xs.filter (awayT p)) l) from rfl)
  have hn900 : n ≤ 800 := by have := hr.len; rw [hn] at this; exact this
  have HL := Lib.hid (And.intro hn (And.intro hsl hr))
  have HH := Lib.hid (And.intro h (And.intro h.box hok)); clear hn hsl hr h hok hni hsi hin
  have HDNZ := Lib.hid (fun W (hb : Below w.heap.size w W) (why' : Int) (hw : ¬ why' = 0) (ys : List NE) => rdone_any W base br A none n 0 c 0 ⟨room, fuse, ops, off, xs⟩ k why' ys (HH.out.1.below hb) HH.out.2.2 hk (fun h => absurd h hw))
  generalize graftW room xs p l = R at *
  go_enter Tryz.func39, Tryz.ntmps39
  go_wp2_with fail
  go_loopw [18] (fun iv wr => ∃ i : Nat, i ≤ ni ∧ iv = .int .i64 i ∧ (∀ k (hk : k < l.length), k < i → awayT p l[k] = false) ∧ Below w.heap.size w wr) (fun iv _ => ni - (intOf iv).toNat)
  case atStart => exact ⟨0, Nat.zero_le _, rfl, fun k _ h => absurd h (Nat.not_lt_zero _), Below.refl _ _⟩
  case round =>
    obtain ⟨i, hi, rfl, hall, hb⟩ := hrel
    have HA := Lib.hid hall; clear hall
    by_cases hlt : i < ni
    · have hiL : i < l.length := by rw [HI.out.1]; exact hlt
      obtain ⟨b, off2, rfl, hbb, hcs⟩ := (HI.out.2.1.below hb (Nat.le_refl _)) (by omega)
      have c0 := hcs i hiL 0 (by omega)
      have c1 := hcs i hiL 1 (by omega)
      have c2 := hcs i hiL 2 (by omega)
      have c3' := hcs i hiL 3 (by omega)
      have c4 := hcs i hiL 4 (by omega)
      simp only [eCSN, List.getElem?_cons_succ, List.getElem?_cons_zero, Nat.add_zero] at c0 c1 c2 c3' c4
      clear hcs
      have hi1 : (i : Int) < ni := by omega
      have hq := (HI.out.2.2 l[i] (List.getElem_mem hiL)).1
      have haw : awayT p l[i] = (!decide (l[i].1 = p) && !inS (upsS l[i].1) p) := rfl
      have hany : awayT p l[i] = true → l.any (awayT p) = true := fun h => List.any_eq_true.2 ⟨_, List.getElem_mem hiL, h⟩
      have HN := Lib.hid (show awayT p l[i] = false → ∀ k (hk : k < l.length), k < i + 1 → awayT p l[k] = false from fun h k hk hki => by
        by_cases e : k = i
        · subst e; exact h
        · exact HA.out k hk (by omega))
      obtain ⟨x, hx⟩ : ∃ x, l[i] = x := ⟨_, rfl⟩
      rw [hx] at HN hany haw
      simp only [hx] at c0 c1 c2 c3' c4 hq
      clear hx
      have hse := str_eq x.1 p
      have HB := Lib.hid (hb.trans (((Below.refl wr.heap.size wr).alloc (Nat.le_refl _) (.cells #[.string x.1, .int .i64 x.2.kind, .int .i64 x.2.mode, .int .u32 x.2.time, .string x.2.data] 32)).mono hb.size))
      have HU := Lib.hid (fun W => ref16Under_any W p x.1 (by omega))
      have HW := Lib.hid (And.intro haw hany)
      clear hb haw hany
      by_cases hxp : x.1 = p
      · rw [decide_eq_true hxp] at hse
        have hse2 : (!(x.1.toList == p.toList)) = false := by rw [hse]; rfl
        have HF := Lib.hid (HN.out (by rw [HW.out.1, decide_eq_true hxp]; rfl))
        clear hxp
        go_wp2_with fail
        go_roundw
        case rel => exact ⟨i + 1, by omega, by go_num, HF.out, HB.out⟩
        case measure => simp [intOf]; omega
      · rw [decide_eq_false hxp] at hse
        have hse2 : (!(x.1.toList == p.toList)) = true := by rw [hse]; rfl
        have HX := Lib.hid (show awayT p x = !inS (upsS x.1) p from by rw [HW.out.1, decide_eq_false hxp]; rfl)
        generalize inS (upsS x.1) p = Q at *
        clear hxp
        go_wp2_with fail
        refine (HU.out _).mono ?_
        rintro e1 w2 ⟨rfl, hb2⟩
        have HB2 := Lib.hid (HB.out.trans (hb2.mono HB.out.size)); clear hb2
        cases Q with
        | true =>
          have HF := Lib.hid (HN.out (by rw [HX.out]; rfl))
          go_wp2_with fail
          go_roundw
          case rel => exact ⟨i + 1, by omega, by go_num, HF.out, HB2.out⟩
          case measure => simp [intOf]; omega
        | false =>
          have HF := Lib.hid (show R = (1, xs) from by rw [HGW.out, if_pos (HW.out.2 (by rw [HX.out]; rfl))])
          have HD := Lib.hid (HDNZ.out _ HB2.out 1 (by decide) xs)
          go_wp2_with fail
          refine HD.out.mono ?_
          rintro e w4 ⟨rfl, ⟨A4, n4, c4, hd4⟩, hg4⟩
          have HZ := Lib.hid (And.intro hd4 (grown_trans (grown_below HB2.out : w.grownBy w2 (some br)) hg4)); clear hd4 hg4 HD
          go_wp2_with fail
          go_ret
          rw [HF.out]
          exact ⟨rfl, ⟨A4, n4, c4, HZ.out.1⟩, HZ.out.2⟩
    · obtain rfl : ni = i := by omega
      have hno : ¬ l.any (awayT p) = true := fun h => by
        obtain ⟨x, hx, hxa⟩ := List.any_eq_true.1 h
        obtain ⟨k, hk, rfl⟩ := List.mem_iff_getElem.1 hx
        rw [HA.out k hk (by rw [← HI.out.1]; exact hk)] at hxa
        cases hxa
      have hR := HGW.out
      rw [if_neg hno] at hR
      have HR := Lib.hid hR
      have c0 := (HH.out.2.1.below hb HH.out.2.1.lt).cell 0
      simp at c0
      have H1 := Lib.hid (And.intro hb hb.size)
      obtain ⟨w1, hw1⟩ : ∃ w1, w1 = wr := ⟨_, rfl⟩
      rw [← hw1] at c0 H1
      rw [← hw1]
      clear hno hR hb HA HGW hw1 wr
      go_wp2_with fail
      clear c0
      go_loopw [9, 41] (fun ov iv wr => ∃ i : Nat, i ≤ n ∧ iv = .int .i64 i ∧ OwnIt wr w1.heap.size ov ((xs.take i).filter (awayT p)) ∧ Below w1.heap.size w1 wr) (fun _ iv _ => n - (intOf iv).toNat)
      case atStart => exact ⟨0, Nat.zero_le _, rfl, World.ownsRow_nil _ _ _ _, Below.refl _ _⟩
      case round =>
        obtain ⟨i, hi, rfl, ho, hb⟩ := hrel
        obtain ⟨Au, cu, rfl, huc1, huc2, _⟩ := SlV_of_any ho
        by_cases hlt : i < n
        · have hiL : i < xs.length := by rw [HL.out.1]; exact hlt
          obtain ⟨b, off2, rfl, hbb, hcs⟩ := (HL.out.2.1.below (H1.out.1.trans (hb.mono H1.out.2)) (Nat.le_refl _)) (by omega)
          have c0 := hcs i hiL 0 (by omega)
          have c1 := hcs i hiL 1 (by omega)
          have c2 := hcs i hiL 2 (by omega)
          have c3' := hcs i hiL 3 (by omega)
          have c4 := hcs i hiL 4 (by omega)
          simp only [eCSN, List.getElem?_cons_succ, List.getElem?_cons_zero, Nat.add_zero] at c0 c1 c2 c3' c4
          clear hcs
          have hi1 : (i : Int) < n := by omega
          have hqs := HL.out.2.2.size xs[i] (List.getElem_mem hiL)
          have hst := away_step p xs i hiL
          have hul : ((xs.take i).filter (awayT p)).length ≤ 900 := Nat.le_trans (List.length_filter_le _ _) (by rw [List.length_take]; omega)
          have haw : awayT p xs[i] = (!decide (xs[i].1 = p) && !inS (upsS xs[i].1) p) := rfl
          obtain ⟨⟨q, kd, md, tm, dt⟩, hx⟩ : ∃ x, xs[i] = x := ⟨_, rfl⟩
          simp only [hx] at c0 c1 c2 c3' c4 hqs hst haw
          clear hx
          obtain ⟨L, hLL⟩ : ∃ L, (xs.take i).filter (awayT p) = L := ⟨_, rfl⟩
          rw [hLL] at hst ho hul huc1
          rw [hLL]
          clear hLL
          obtain ⟨mu, hmu⟩ : ∃ mu, L.length = mu := ⟨_, rfl⟩
          have hR1 : wr.ownsRow w1.heap.size 32 5 (.slice Au mu cu) mu (L.flatMap eCSN) := by have := ho; unfold OwnIt at this; rw [hmu] at this; exact this
          rw [hmu] at hul huc1
          rw [hmu]
          have HSU := Lib.hid (And.intro hst (And.intro haw hmu))
          have HR := Lib.hid (And.intro hR1 hb)
          have hgW : w1.heap.size ≤ wr.heap.size := hb.size
          have hse := str_eq q p
          have hbN := Blk.new wr 32 #[.string q, .int .i64 kd, .int .i64 md, .int .u32 tm, .string dt]
          have HBN := Lib.hid hbN
          have HBA := Lib.hid ((Below.refl wr.heap.size wr).alloc (Nat.le_refl _) (.cells #[.string q, .int .i64 kd, .int .i64 md, .int .u32 tm, .string dt] 32))
          have HRU := Lib.hid (fun W => ref16Under_any W p q (by omega))
          clear hst haw hmu hR1 hb ho hbN
          by_cases hqP : q = p
          · rw [decide_eq_true hqP] at hse
            have hse2 : (!(q.toList == p.toList)) = false := by rw [hse]; rfl
            have HF1 := Lib.hid (show (xs.take (i + 1)).filter (awayT p) = L from by rw [HSU.out.1, HSU.out.2.1, decide_eq_true hqP]; simp)
            clear hqP
            go_wp2_with fail
            go_roundw
            case rel => exact ⟨i + 1, by omega, by go_num, by rw [HF1.out]; unfold OwnIt; rw [HSU.out.2.2]; exact HR.out.1.alloc _, HR.out.2.trans (HBA.out.mono hgW)⟩
            case measure => simp [intOf]; omega
          · rw [decide_eq_false hqP] at hse
            have hse2 : (!(q.toList == p.toList)) = true := by rw [hse]; rfl
            have HAW := Lib.hid (show awayT p (q, ⟨kd, md, tm, dt⟩) = !inS (upsS q) p from by rw [HSU.out.2.1, decide_eq_false hqP]; rfl)
            generalize inS (upsS q) p = Q at *
            clear hqP
            go_wp2_with fail
            refine (HRU.out _).mono ?_
            rintro e w3 ⟨rfl, hb3⟩
            have hN3 := HBN.out.below hb3 HBN.out.lt
            have hR3 := own_kept (HR.out.1.alloc _) hb3
            have hb3' := HR.out.2.trans ((HBA.out.trans (hb3.mono HBA.out.size)).mono hgW)
            have hg3 : w1.heap.size ≤ w3.heap.size := hb3'.size
            have z0 := hN3.cell 0
            have z1 := hN3.cell 1
            have z2 := hN3.cell 2
            have z3 := hN3.cell 3
            have z4 := hN3.cell 4
            simp at z0 z1 z2 z3 z4
            have H3 := Lib.hid (And.intro hR3 hb3'); clear hN3 hR3 hb3' hb3 HBN HBA HRU
            cases Q with
            | true =>
              have HF1 := Lib.hid (show (xs.take (i + 1)).filter (awayT p) = L from by rw [HSU.out.1, HAW.out]; simp)
              go_wp2_with fail
              go_roundw
              case rel => exact ⟨i + 1, by omega, by go_num, by rw [HF1.out]; unfold OwnIt; rw [HSU.out.2.2]; exact H3.out.1, H3.out.2⟩
              case measure => simp [intOf]; omega
            | false =>
              have HF1 := Lib.hid (show (xs.take (i + 1)).filter (awayT p) = L ++ [(q, ⟨kd, md, tm, dt⟩)] from by rw [HSU.out.1, HAW.out]; rfl)
              have HB12 := Lib.hid (show Below w3.heap.size w3 (w3.alloc (.cells #[.string q, .int .i64 kd, .int .i64 md, .int .u32 tm, .string dt] 32)) from (Below.refl _ _).alloc (Nat.le_refl _) _)
              go_wp2_with (at_builtin; refine wpList_app rfl _ _ 22 rfl w1.heap.size 32 (.agg #[.string ⟨#[]⟩, .int .i64 0, .int .i64 0, .int .u32 0, .string ⟨#[]⟩]) 5 56 Tryz.underlying22 infoIt rfl (by decide) _ mu _ rfl (H3.out.1.alloc _) w3.heap.size 1 #[.string q, .int .i64 kd, .int .i64 md, .int .u32 tm, .string dt] 32 rfl (Blk.new _ _ _) rfl (by simp [Value.oneCell']) (by omega) (by decide) (by simp; omega) _ rfl ?_; intro g cap w5 hown1 hgrow1 hat hlt1; have HA := Lib.hid (And.intro hown1 hgrow1); clear hown1 hgrow1 hat hlt1)
              go_roundw
              case rel => exact ⟨i + 1, by omega, by go_num, by rw [HF1.out]; exact OwnIt.app HA.out.1 HSU.out.2.2, (H3.out.2.trans (HB12.out.mono hg3)).grown HA.out.2 (Nat.le_trans hg3 HB12.out.size) (fun k hk => (H3.out.1.lt k hk).1)⟩
              case measure => simp [intOf]; omega
        · obtain rfl : n = i := by omega
          rw [List.take_of_length_le (by rw [HL.out.1]; omega)] at ho huc1 ⊢
          have hw0 := own_wide ho H1.out.2
          have hbw := H1.out.1.trans (hb.mono H1.out.2)
          obtain ⟨Y, hY⟩ : ∃ Y, xs.filter (awayT p) = Y := ⟨_, rfl⟩
          have hrY := HL.out.2.2.away p
          obtain ⟨m0, hm0⟩ : ∃ m0, (xs.filter (awayT p)).length = m0 := ⟨_, rfl⟩
          have hw1 : wr.ownsRow w.heap.size 32 5 (.slice Au (xs.filter (awayT p)).length cu) (xs.filter (awayT p)).length ((xs.filter (awayT p)).flatMap eCSN) := hw0
          rw [hY] at hw0
          rw [hm0] at hw1 huc1
          rw [hm0]
          have hR := HR.out
          rw [hY] at hR hrY hm0
          have HY := Lib.hid (And.intro hrY (And.intro hR (And.intro hm0 (And.intro (by unfold OwnIt; rw [hm0]; rw [hY] at hw1; exact hw1 : OwnIt wr w.heap.size (.slice Au m0 cu) Y) hbw))))
          have hY8 : Y.length ≤ 800 := hrY.len
          clear hb ho hw0 hw1 hbw hrY hR hm0 hY HR HL H1
          obtain ⟨wo, hwo⟩ : ∃ wo, wo = wr := ⟨_, rfl⟩
          rw [← hwo] at HY
          rw [← hwo]
          clear hwo wr
          go_wp2_with fail
          go_loopw [9, 63] (fun ov iv wr => ∃ (i : Nat) (ys : List NE), i ≤ ni ∧ iv = .int .i64 i ∧ OwnIt wr w.heap.size ov ys ∧ putsT Y l = putsT ys (l.drop i) ∧ TI ys ∧ ys.length ≤ 800 + i ∧ Below w.heap.size w wr) (fun _ iv _ => ni - (intOf iv).toNat)
          case atStart => exact ⟨0, Y, Nat.zero_le _, rfl, HY.out.2.2.2.1, by rw [List.drop_zero], HY.out.1.ti, by omega, HY.out.2.2.2.2⟩
          case round =>
            obtain ⟨i, ys, hi, rfl, ho, hps, hti, hyl, hbw⟩ := hrel
            have hoo := ho
            obtain ⟨Ay, cy, rfl, hyc1, hyc2, _⟩ := SlV_of_any ho
            obtain ⟨my, hmy⟩ : ∃ my, ys.length = my := ⟨_, rfl⟩
            rw [hmy] at hyc1 hyl hoo
            rw [hmy]
            by_cases hlt : i < ni
            · have hiL : i < l.length := by rw [HI.out.1]; exact hlt
              obtain ⟨b, off2, rfl, hbb, hcs⟩ := (HI.out.2.1.below hbw (Nat.le_refl _)) (by omega)
              have c0 := hcs i hiL 0 (by omega)
              have c1 := hcs i hiL 1 (by omega)
              have c2 := hcs i hiL 2 (by omega)
              have c3' := hcs i hiL 3 (by omega)
              have c4 := hcs i hiL 4 (by omega)
              simp only [eCSN, List.getElem?_cons_succ, List.getElem?_cons_zero, Nat.add_zero] at c0 c1 c2 c3' c4
              clear hcs
              have hi1 : (i : Int) < ni := by omega
              obtain ⟨hq, hnd, _⟩ := HI.out.2.2 l[i] (List.getElem_mem hiL)
              have hst := putsT_step ys l i hiL
              obtain ⟨⟨q, kd, md, tm, dt⟩, hx⟩ : ∃ x, l[i] = x := ⟨_, rfl⟩
              simp only [hx] at c0 c1 c2 c3' c4 hq hnd hst
              clear hx
              have hba := (Below.refl wr.heap.size wr).alloc (Nat.le_refl _) (.cells #[.string q, .int .i64 kd, .int .i64 md, .int .u32 tm, .string dt] 32)
              have hb2 := hbw.trans (hba.mono hbw.size)
              have HSZ : ∀ e ∈ ys, e.1.size ≤ 90000 := fun e he => by
                have hl2 := (rightL_len (hti.paths e he)).1
                have hz : e.1.data.toList.length = e.1.size := by simp
                omega
              have HP := Lib.hid (ref16Put_any _ w.heap.size _ ys q ⟨kd, md, tm, dt⟩ (OwnIt.below hoo hba) hb2.size hti.up hti.paths (by omega) (fun e he => HSZ e he) hq hnd.t0 hnd.t1 hnd.size)
              have hpl := putT_len ys q ⟨kd, md, tm, dt⟩
              have hti2 := hti.putT q ⟨kd, md, tm, dt⟩
              have HQ := Lib.hid (And.intro (hps.trans hst) (And.intro hb2 hti2)); clear hba hps hst hbw hb2 hti hti2 ho hoo HSZ
              generalize mayT ys q ⟨kd, md, tm, dt⟩ = why at *
              generalize putT ys q ⟨kd, md, tm, dt⟩ = zs at *
              simp only [Nd.c] at HP
              go_wp2_with fail
              refine HP.out.mono ?_
              rintro e1 w3 ⟨r3, rfl, ho3, hb3⟩
              have H3 := Lib.hid (And.intro ho3 (HQ.out.2.1.trans (hb3.mono HQ.out.2.1.size))); clear ho3 hb3 HP
              by_cases hw : why = 0
              · have hwe : (why != 0) = false := by rw [hw]; rfl
                have HF := Lib.hid (show putsT Y l = putsT zs (l.drop (i + 1)) from by rw [HQ.out.1, if_pos hw]); clear hw
                go_wp2_with fail
                go_roundw
                case rel => exact ⟨i + 1, zs, by omega, by go_num, H3.out.1, HF.out, HQ.out.2.2, by omega, H3.out.2⟩
                case measure => simp [intOf]; omega
              · have hwe : (why != 0) = true := by rw [bne_iff_ne]; exact hw
                have HF := Lib.hid (show R = (why, ys) from by rw [HY.out.2.1, HQ.out.1, if_neg hw, if_neg hw])
                have HD := Lib.hid (HDNZ.out _ H3.out.2 why hw ys); clear hw
                go_wp2_with fail
                refine HD.out.mono ?_
                rintro e w4 ⟨rfl, ⟨A4, n4, c4, hd4⟩, hg4⟩
                have HZ := Lib.hid (And.intro hd4 (grown_trans (grown_below H3.out.2 : w.grownBy w3 (some br)) hg4)); clear hd4 hg4 HD
                go_wp2_with fail
                go_ret
                rw [HF.out]
                exact ⟨rfl, ⟨A4, n4, c4, HZ.out.1⟩, HZ.out.2⟩
            · obtain rfl : ni = i := by omega
              rw [List.drop_of_length_le (by rw [HI.out.1]; omega)] at hps
              have hps' : putsT Y l = (0, ys) := hps
              have hR : R = (fitsW room ys, ys) := by rw [HY.out.2.1, hps', if_pos rfl]
              have hby : bytesT ys ≤ 1000000000 := by
                have h2 := (HY.out.1.puts (L := l) (fun e he => (HI.out.2.2 e he).2) (by rw [HI.out.1]; omega)).bytes
                rw [hps'] at h2
                exact Nat.le_trans h2 (by decide)
              have hbx := HH.out.2.1.below hbw HH.out.2.1.lt
              have hl2 := hbx.lt
              have hbc := hbx.cell 1
              have j1 : ∀ m : Held (Aft wr), (HeldW m).cell? ⟨br, 1, none⟩ = some (.int .i64 room) := fun m => (Aft.cell m hl2).trans hbc
              have HBY := Lib.hid (fun m : Held (Aft wr) => rbytes_any (HeldW m) (.slice Ay my cy) ys ((OwnIt.below hoo (HeldW_spec m)).slv) hby)
              obtain ⟨S, hS⟩ : ∃ S, bytesT ys = S := ⟨_, rfl⟩
              rw [hS] at HBY
              have hwo := own_wide hoo hB
              have HDN := Lib.hid (fun W (hb : Below wr.heap.size wr W) => rdone_any W base br A Ay n my c cy ⟨room, fuse, ops, off, xs⟩ k 0 ys (HH.out.1.below (hbw.trans (hb.mono hbw.size))) HH.out.2.2 hk (fun _ => OwnIt.below hwo hb))
              have HSS := Lib.hid (And.intro hS (And.intro hR hbw))
              clear hS hR hbw hwo hoo ho hps hps' hby hbx hbc hti hmy HI
              haveI := Aft.some wr
              by_cases h0 : 0 ≤ room
              · by_cases hs : room < (S : Int)
                · have HA2 := Lib.hid (show R = (9, ys) from by rw [HSS.out.2.1]; unfold fitsW; rw [HSS.out.1, if_pos ⟨h0, hs⟩])
                  go_wp2_with fail
                  refine wp_region_class (Aft wr) (by kernel_rfl) (by kernel_rfl) (Aft.start wr) ?_
                  repeat (go_big_quiet_step (with_reducible exact held_below Aft.keep (HBY.out _)))
                  refine wpQuiet_nil ?_
                  rintro _ ⟨nn, rfl⟩
                  have hbb := HSS.out.2.2.trans ((HeldW_spec nn : Below wr.heap.size wr (HeldW nn)).mono HSS.out.2.2.size)
                  have HDW := Lib.hid (HDNZ.out (HeldW nn) hbb 9 (by decide) ys)
                  have HGW := Lib.hid (grown_below hbb : w.grownBy (HeldW nn) (some br)); clear hbb
                  go_wp2_with fail
                  refine HDW.out.mono ?_
                  rintro e w4 ⟨rfl, ⟨A4, n4, c4, hd4⟩, hg4⟩
                  have HF := Lib.hid (And.intro hd4 (grown_trans HGW.out hg4)); clear hd4 hg4 HDW
                  go_wp2_with fail
                  go_ret
                  rw [HA2.out]
                  exact ⟨rfl, ⟨A4, n4, c4, HF.out.1⟩, HF.out.2⟩
                · have HA2 := Lib.hid (show R = (0, ys) from by rw [HSS.out.2.1]; unfold fitsW; rw [HSS.out.1, if_neg (fun h => hs h.2)])
                  have hs2 : (S : Int) ≤ room := by omega
                  go_wp2_with fail
                  refine wp_region_class (Aft wr) (by kernel_rfl) (by kernel_rfl) (Aft.start wr) ?_
                  repeat (go_big_quiet_step (with_reducible exact held_below Aft.keep (HBY.out _)))
                  refine wpQuiet_nil ?_
                  rintro _ ⟨nn, rfl⟩
                  have HDW := Lib.hid (HDN.out (HeldW nn) (HeldW_spec nn))
                  have HGW := Lib.hid (grown_below (HSS.out.2.2.trans ((HeldW_spec nn : Below wr.heap.size wr (HeldW nn)).mono HSS.out.2.2.size)) : w.grownBy (HeldW nn) (some br))
                  go_wp2_with fail
                  refine HDW.out.mono ?_
                  rintro e w4 ⟨rfl, ⟨A4, n4, c4, hd4⟩, hg4⟩
                  have HF := Lib.hid (And.intro hd4 (grown_trans HGW.out hg4)); clear hd4 hg4 HDW
                  go_wp2_with fail
                  go_ret
                  rw [HA2.out]
                  exact ⟨rfl, ⟨A4, n4, c4, HF.out.1⟩, HF.out.2⟩
              · have HA2 := Lib.hid (show R = (0, ys) from by rw [HSS.out.2.1]; unfold fitsW; rw [if_neg (fun h => h0 h.1)])
                have h02 : decide (0 ≤ room) = false := decide_eq_false h0
                go_wp2_with fail
                refine wp_region_class (Aft wr) (by kernel_rfl) (by kernel_rfl) (Aft.start wr) ?_
                repeat (go_big_quiet_step (with_reducible exact held_below Aft.keep (HBY.out _)))
                refine wpQuiet_nil ?_
                rintro _ ⟨nn, rfl⟩
                have HDW := Lib.hid (HDN.out (HeldW nn) (HeldW_spec nn))
                have HGW := Lib.hid (grown_below (HSS.out.2.2.trans ((HeldW_spec nn : Below wr.heap.size wr (HeldW nn)).mono HSS.out.2.2.size)) : w.grownBy (HeldW nn) (some br))
                go_wp2_with fail
                refine HDW.out.mono ?_
                rintro e w4 ⟨rfl, ⟨A4, n4, c4, hd4⟩, hg4⟩
                have HF := Lib.hid (And.intro hd4 (grown_trans HGW.out hg4)); clear hd4 hg4 HDW
                go_wp2_with fail
                go_ret
                rw [HA2.out]
                exact ⟨rfl, ⟨A4, n4, c4, HF.out.1⟩, HF.out.2⟩
end Go.Proofs.YtcpmhjealiajpaaGreatDoor
