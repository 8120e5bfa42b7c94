/- Several texts, joined for the limit of sixty files; each one opens with its own comment. -/
import Derived.Test.YtcpmhjealiajpaaGreatDoorJoin17
import Derived.Deep.CutBlock
import Derived.Test.YtcpmhjealiajpaaGreatDoorJoin1
/- What holds of a live directory behind each step: plain. -/
set_option linter.unusedVariables false
set_option linter.unusedSimpArgs false
namespace Sw
open Go
open Go.Proofs.YtcpmhjealiajpaaGreatDoor (awayT undT bytesT bytesT_app bytesT_le NdIn putT_len dropT_len)
theorem bytesT_filter (f : NE → Bool) : ∀ xs : List NE, bytesT (xs.filter f) + bytesT (xs.filter fun x => !f x) = bytesT xs
  | [] => rfl
  | x :: xs => by
    have h := bytesT_filter f xs
    have e : bytesT (x :: xs) = x.2.data.size + bytesT xs := by unfold bytesT; rw [List.map_cons, List.sum_cons]
    have e2 : ∀ l : List NE, bytesT (x :: l) = x.2.data.size + bytesT l := fun l => by unfold bytesT; rw [List.map_cons, List.sum_cons]
    cases hf : f x
    · rw [List.filter_cons_of_neg (by rw [hf]; simp), List.filter_cons_of_pos (by rw [hf]; rfl), e2, e]; omega
    · rw [List.filter_cons_of_pos hf, List.filter_cons_of_neg (by rw [hf]; simp), e2, e]; omega
theorem bytesT_filter_le (f : NE → Bool) (xs : List NE) : bytesT (xs.filter f) ≤ bytesT xs := by have := bytesT_filter f xs; omega
theorem bytesT_put_new {xs : List NE} (hu : Up ordS xs) {p : ByteArray} (h : ∀ e ∈ xs, ¬ e.1 = p) (n : Nd) : bytesT (putN ordS p n xs) = bytesT xs + n.data.size := by
  rw [put_filter ordS_ord p n xs hu, bytesT_app]
  have e2 : ∀ l : List NE, bytesT ((p, n) :: l) = n.data.size + bytesT l := fun l => by unfold bytesT; rw [List.map_cons, List.sum_cons]
  rw [e2]
  have h1 : bytesT (xs.filter (fun e => decide (ordS e.1 p < 0))) + bytesT (xs.filter (fun e => !decide (ordS e.1 p < 0))) = bytesT xs := bytesT_filter (fun e => decide (ordS e.1 p < 0)) xs
  have h2 : xs.filter (fun e => decide (0 < ordS e.1 p)) = xs.filter (fun e => !decide (ordS e.1 p < 0)) := List.filter_congr fun e he => by
    have h3 := ordS_three e.1 p
    have h4 : ¬ ordS e.1 p = 0 := fun h0 => h e he (ordS_zero h0)
    rw [Bool.eq_iff_iff]
    simp
    omega
  rw [h2, ← h1, Nat.add_assoc]
  congr 1
  exact Nat.add_comm _ _
theorem bytesT_fold : ∀ (L base : List NE), Up ordS base → Unlike L → (∀ r ∈ L, ∀ x ∈ base, ¬ x.1 = r.1) → bytesT (L.foldl putE base) = bytesT base + bytesT L
  | [], base, _, _, _ => rfl
  | r :: L, base, hu, hl, hd => by
    obtain ⟨h1, h2⟩ := List.pairwise_cons.1 hl
    have e2 : bytesT (r :: L) = r.2.data.size + bytesT L := by unfold bytesT; rw [List.map_cons, List.sum_cons]
    rw [List.foldl_cons, bytesT_fold L (putN ordS r.1 r.2 base) (put_up ordS_ord _ _ _ hu) h2 (fun r' hr' x hx => by
      rcases (put_iff hu r.1 r.2 x).1 hx with rfl | ⟨hx, _⟩
      · exact h1 r' hr'
      · exact hd r' (List.mem_cons_of_mem _ hr') x hx), bytesT_put_new hu (hd r (List.mem_cons_self ..)), e2]
    omega
theorem Ren.bytes {xs : List NE} {fr tt : ByteArray} (h : Ren xs fr tt) : bytesT (renT xs fr tt) = bytesT xs := by
  unfold renT
  rw [bytesT_fold _ _ (h.ti.up.filter _) h.unlike (fun r hr x hx e => h.apart (List.mem_filter.1 hx).1 hr e.symm)]
  have e1 : bytesT ((undT fr xs).map (mvE fr tt)) = bytesT (undT fr xs) := by unfold bytesT; rw [List.map_map]; rfl
  rw [e1]
  exact bytesT_filter (awayT fr) xs
theorem putT_mem {xs : List NE} {p : ByteArray} {n : Nd} {e : NE} (h : e ∈ putT xs p n) : e = (p, n) ∨ e ∈ xs := by
  unfold putT at h
  split at h
  · exact put_mem p n xs e h
  · exact .inr h
theorem dropT_mem {xs : List NE} {p : ByteArray} {e : NE} (h : e ∈ dropT xs p) : e ∈ xs := by
  unfold dropT at h
  split at h
  · exact drop_mem p xs e h
  · exact h
theorem dropT_bytes {xs : List NE} (hu : Up ordS xs) (p : ByteArray) : bytesT (dropT xs p) ≤ bytesT xs := by
  unfold dropT
  split
  · rw [drop_filter ordS_ord p xs hu]; exact bytesT_filter_le _ _
  · exact Nat.le_refl _
theorem putsT_mem : ∀ (L : List NE) {ys : List NE} {e : NE}, e ∈ (putsT ys L).2 → e ∈ ys ∨ e ∈ L
  | [], ys, e, h => .inl h
  | x :: L, ys, e, h => by
    unfold putsT at h
    split at h
    · rcases putsT_mem L h with h | h
      · rcases putT_mem h with rfl | h
        · exact .inr (List.mem_cons_self ..)
        · exact .inl h
      · exact .inr (List.mem_cons_of_mem _ h)
    · exact .inl h
theorem stepD_off {s : DS} {why : Int} {ys : List NE} (h : (stepD s why ys).2.off = true) : (stepD s why ys).1 = 10 := by
  unfold stepD at h ⊢
  by_cases h0 : s.off = true
  · rw [if_pos h0]
  · rw [if_neg h0] at h ⊢
    by_cases h1 : ¬ why = 0
    · rw [if_pos h1] at h; exact absurd h h0
    · rw [if_neg h1] at h ⊢
      by_cases h2 : s.fuse = 0
      · rw [if_pos h2]
      · rw [if_neg h2] at h; exact absurd h h0
theorem stepD_keep {s : DS} {why : Int} {ys : List NE} (h : ¬ (stepD s why ys).1 = 0) : (stepD s why ys).2.xs = s.xs := by
  unfold stepD at h ⊢
  split
  · rfl
  · split
    · rfl
    · split
      · rfl
      · rename_i h0 h1 h2
        rw [if_neg h0, if_neg h1, if_neg h2] at h
        exact absurd rfl h
theorem stepD_xs (s : DS) (why : Int) (ys : List NE) : (stepD s why ys).2.xs = s.xs ∨ (why = 0 ∧ (stepD s why ys).2.xs = ys) := by
  unfold stepD
  split
  · exact .inl rfl
  · split
    · exact .inl rfl
    · rename_i h1
      split
      · exact .inl rfl
      · exact .inr ⟨by simpa using h1, rfl⟩
theorem stepD_room (s : DS) (why : Int) (ys : List NE) : (stepD s why ys).2.room = s.room := by
  unfold stepD
  split
  · rfl
  · split
    · rfl
    · split <;> rfl
/-- what holds of a row that a step may make -/
structure RowOk (k : Nat) (xs : List NE) : Prop where
  ti : TI xs
  len : xs.length ≤ k
  small : ∀ e ∈ xs, e.2.data.size ≤ 500
  nd : ∀ e ∈ xs, NdIn e.2
theorem RowOk.size {k : Nat} {xs : List NE} (h : RowOk k xs) : ∀ e ∈ xs, e.1.size ≤ 200 := fun e he => by
  have hl := (rightL_len (h.ti.paths e he)).1
  have hz : e.1.data.toList.length = e.1.size := by simp
  omega
theorem RowOk.bytes {k : Nat} {xs : List NE} (h : RowOk k xs) : bytesT xs ≤ 500 * k := Nat.le_trans (bytesT_le xs h.small) (Nat.mul_le_mul_left 500 h.len)
theorem RowOk.more {k m : Nat} {xs : List NE} (h : RowOk k xs) (hm : k ≤ m) : RowOk m xs := ⟨h.ti, Nat.le_trans h.len hm, h.small, h.nd⟩
theorem RowOk.nil (k : Nat) : RowOk k [] := ⟨TI.nil, Nat.zero_le _, fun _ h => absurd h (by simp), fun _ h => absurd h (by simp)⟩
theorem RowOk.put {k : Nat} {xs : List NE} (h : RowOk k xs) (p : ByteArray) {n : Nd} (hn : NdIn n) (hs : n.data.size ≤ 500) : RowOk (k + 1) (putT xs p n) :=
  ⟨h.ti.putT p n, Nat.le_trans (putT_len xs p n) (by have := h.len; omega), fun e he => by rcases putT_mem he with rfl | he; exact hs; exact h.small e he, fun e he => by rcases putT_mem he with rfl | he; exact hn; exact h.nd e he⟩
theorem RowOk.drop {k : Nat} {xs : List NE} (h : RowOk k xs) (p : ByteArray) : RowOk k (dropT xs p) :=
  ⟨h.ti.dropT p, Nat.le_trans (dropT_len xs p) h.len, fun e he => h.small e (dropT_mem he), fun e he => h.nd e (dropT_mem he)⟩
theorem RowOk.away {k : Nat} {xs : List NE} (h : RowOk k xs) (p : ByteArray) : RowOk k (xs.filter (awayT p)) :=
  ⟨h.ti.away p, Nat.le_trans (List.length_filter_le _ _) h.len, fun e he => h.small e (List.mem_filter.1 he).1, fun e he => h.nd e (List.mem_filter.1 he).1⟩
theorem RowOk.ren {k : Nat} {xs : List NE} (h : RowOk k xs) {fr tt : ByteArray} (hr : Ren xs fr tt) : RowOk k (renT xs fr tt) :=
  ⟨hr.puts.2, by rw [hr.length]; exact h.len, fun e he => by obtain ⟨a, ha, rfl⟩ := List.mem_map.1 ((hr.mem2 e).1 he); exact h.small a ha, fun e he => by obtain ⟨a, ha, rfl⟩ := List.mem_map.1 ((hr.mem2 e).1 he); exact h.nd a ha⟩
theorem RowOk.puts {k : Nat} {xs : List NE} (h : RowOk k xs) {L : List NE} (hL : ∀ e ∈ L, NdIn e.2 ∧ e.2.data.size ≤ 500) (hl : L.length ≤ 2) : RowOk (k + 2) (putsT xs L).2 :=
  ⟨putsT_ti L h.ti, Nat.le_trans (putsT_len L xs) (by have := h.len; omega), fun e he => by rcases putsT_mem L he with he | he; exact h.small e he; exact (hL e he).2, fun e he => by rcases putsT_mem L he with he | he; exact h.nd e he; exact (hL e he).1⟩
/-- what holds of a live directory behind some steps -/
structure Gd (room : Int) (i : Nat) (s : DS) : Prop where
  rm : s.room = room
  row : RowOk (2 * i) s.xs
  fit : 0 ≤ room → (bytesT s.xs : Int) ≤ room
  ok : s.Ok i
theorem Gd.step {room : Int} {i : Nat} {s : DS} (h : Gd room i s) (why : Int) (ys : List NE) (hys : why = 0 → RowOk (2 * i + 2) ys ∧ (0 ≤ room → (bytesT ys : Int) ≤ room)) : Gd room (i + 1) (stepD s why ys).2 := by
  refine ⟨by rw [stepD_room]; exact h.rm, ?_, ?_, h.ok.step why ys⟩
  · rcases stepD_xs s why ys with e | ⟨hw, e⟩
    · rw [e]; exact h.row.more (by omega)
    · rw [e]; exact (hys hw).1.more (by omega)
  · rcases stepD_xs s why ys with e | ⟨hw, e⟩
    · rw [e]; exact h.fit
    · rw [e]; exact (hys hw).2
theorem fitsW_zero {room : Int} {ys : List NE} (h : fitsW room ys = 0) (h0 : 0 ≤ room) : (bytesT ys : Int) ≤ room := by
  unfold fitsW at h
  by_cases hc : 0 ≤ room ∧ room < (bytesT ys : Int)
  · rw [if_pos hc] at h; cases h
  · omega
theorem Gd.put {room : Int} {i : Nat} {s : DS} (h : Gd room i s) (p : ByteArray) {n : Nd} (hn : NdIn n) (hs : n.data.size ≤ 500) : Gd room (i + 1) (stepD s (putW room s.xs p n) (putT s.xs p n)).2 :=
  h.step _ _ fun hw => ⟨(h.row.put p hn hs).more (by omega), fun h0 => by
    unfold putW at hw
    by_cases hm : mayT s.xs p n = 0
    · rw [if_neg (by simpa using hm)] at hw; exact fitsW_zero hw h0
    · rw [if_pos hm] at hw; exact absurd hw hm⟩
theorem Gd.remove {room : Int} {i : Nat} {s : DS} (h : Gd room i s) (p : ByteArray) : Gd room (i + 1) (stepD s (whyDrop s.xs p) (dropT s.xs p)).2 :=
  h.step _ _ fun _ => ⟨(h.row.drop p).more (by omega), fun h0 => by have := dropT_bytes h.row.ti.up p; have := h.fit h0; omega⟩
theorem Gd.clear {room : Int} {i : Nat} {s : DS} (h : Gd room i s) (p : ByteArray) : Gd room (i + 1) (stepD s (clearW s.xs p) (s.xs.filter (awayT p))).2 :=
  h.step _ _ fun _ => ⟨(h.row.away p).more (by omega), fun h0 => by have := bytesT_filter_le (awayT p) s.xs; have := h.fit h0; omega⟩
theorem Gd.rename {room : Int} {i : Nat} {s : DS} (h : Gd room i s) (hi : i ≤ 100) (fr tt : ByteArray) : Gd room (i + 1) (stepD s (renW s.xs fr tt) (renT s.xs fr tt)).2 :=
  h.step _ _ fun hw => by
    have hr := ren_of h.row.ti (by have := h.row.len; omega) hw
    exact ⟨(h.row.ren hr).more (by omega), fun h0 => by rw [hr.bytes]; exact h.fit h0⟩
theorem Gd.graft {room : Int} {i : Nat} {s : DS} (h : Gd room i s) (p : ByteArray) {L : List NE} (hL : ∀ e ∈ L, NdIn e.2 ∧ e.2.data.size ≤ 500) (hl : L.length ≤ 2) : Gd room (i + 1) (stepD s (graftW room s.xs p L).1 (graftW room s.xs p L).2).2 :=
  h.step _ _ fun hw => by
    unfold graftW at hw ⊢
    by_cases h1 : L.any (awayT p) = true
    · rw [if_pos h1] at hw; cases hw
    · rw [if_neg h1] at hw ⊢
      by_cases h2 : (putsT (s.xs.filter (awayT p)) L).1 = 0
      · rw [if_pos h2] at hw ⊢
        exact ⟨(h.row.away p).puts hL hl, fun h0 => fitsW_zero hw h0⟩
      · rw [if_neg h2] at hw; exact absurd hw h2
end Sw
/- The main walk of DirfsWhole. -/
set_option linter.unusedVariables false
set_option linter.unusedSimpArgs false
namespace Go.Proofs.YtcpmhjealiajpaaGreatDoor
open Go Go.RowKit
open Sw
set_option maxRecDepth 100000 in
set_option maxHeartbeats 16000000 in
theorem dirfsWhole_main (w : World) (A : Option Addr) (n c : Nat) (l : List St18) (room : Int) (fu : Nat) (hl : l.length = n) (hnc : n ≤ c) (hcm : c ≤ maxLen) (hsl : SlOf w 8 st18C A l) (hin : ∀ s ∈ l, St18In s) (hfu : fu < 18446744073709551616) :
    Calls Tryz.prog 6 #[.int .i64 room, .slice A n c, .int .u64 fu] w fun e w' => e = .returned (.bool true) ∧ Below w.heap.size w w' := by
  have hslv : SlV w 8 st18C (.slice A n c) l := ⟨A, c, by rw [hl], by rw [hl]; exact hnc, hcm, hsl⟩
  unfold maxLen at hcm
  have HLT := Lib.hid (light18_any w _ l hslv hin)
  have HLV := Lib.hid (fun W => lives18_any W)
  have HIN := Lib.hid (And.intro hl (And.intro hin hsl)); clear hslv hl hin hsl
  go_enter Tryz.func6, Tryz.ntmps6
  go_wp2_with fail
  refine HLT.out.mono ?_
  rintro e w1 ⟨R, rfl, hR, hb1⟩
  have HR := Lib.hid hR
  have HBB := Lib.hid hb1; clear hR hb1 HLT
  cases R with
  | false =>
    go_wp2_with fail
    refine (HLV.out _).mono ?_
    rintro e w9 ⟨rfl, hb9⟩
    have HZ := Lib.hid (HBB.out.trans (hb9.mono HBB.out.size)); clear hb9
    go_wp2_with fail
    go_ret
    exact ⟨rfl, HZ.out⟩
  | true =>
    obtain ⟨hl25, hsm⟩ := HR.out rfl
    have hn25 : n ≤ 25 := by rw [HIN.out.1] at hl25; exact hl25
    have HSM := Lib.hid hsm
    have HNW := Lib.hid (dirNew_any w1 room)
    clear hl25 hsm HR
    go_wp2_with fail
    refine HNW.out.mono ?_
    rintro e w3 ⟨bd, bt, bm, rfl, hd3, hbd3, hb3⟩
    have hbd : w.heap.size ≤ bd := Nat.le_trans HBB.out.size hbd3
    have H3 := Lib.hid (And.intro hd3 (HBB.out.trans (hb3.mono HBB.out.size))); clear hd3 hbd3 hb3 HNW HBB
    obtain ⟨fm, hfm, hfm30⟩ : ∃ fm : Nat, (fu : Int) % 30 = fm ∧ fm < 30 := ⟨fu % 30, by omega, by omega⟩
    have hfw : IntKind.i64.wrap (fm : Int) = fm := IntWalk.i64_in _ (by omega)
    go_wp2_with fail
    go_loopw [22] (fun iv wr => ∃ (i bt bm : Nat) (s : DS), i ≤ n ∧ iv = .int .i64 i ∧ DirAt wr bd bt bm s ∧ Gd room i s ∧ Below w.heap.size w wr) (fun iv _ => n - (intOf iv).toNat)
    case atStart => exact ⟨0, bt, bm, _, Nat.zero_le _, rfl, H3.out.1, ⟨rfl, RowOk.nil _, fun h => by have e : bytesT [] = 0 := rfl; rw [e]; omega, ⟨by simp, by simp, by simp, by simp⟩⟩, H3.out.2⟩
    case round =>
      obtain ⟨i, bt0, bm0, s0, hi, rfl, hd, hgd, hb⟩ := hrel
      by_cases hlt : i < n
      · have hiL : i < l.length := by rw [HIN.out.1]; exact hlt
        obtain ⟨b, off, rfl, hbb, hcs⟩ := (HIN.out.2.2.below hb (Nat.le_refl _)) (by omega)
        have c0 := hcs i hiL 0 (by omega)
        have c1 := hcs i hiL 1 (by omega)
        have c2 := hcs i hiL 2 (by omega)
        have c3' := hcs i hiL 3 (by omega)
        have c4 := hcs i hiL 4 (by omega)
        have c5 := hcs i hiL 5 (by omega)
        have c6 := hcs i hiL 6 (by omega)
        have c7 := hcs i hiL 7 (by omega)
        simp only [st18C, List.getElem?_cons_succ, List.getElem?_cons_zero, Nat.add_zero] at c0 c1 c2 c3' c4 c5 c6 c7
        clear hcs
        have hi1 : (i : Int) < n := by omega
        obtain ⟨hp100, hq100, hd500⟩ := HSM.out l[i] (List.getElem_mem hiL)
        have hsin := HIN.out.2.1 l[i] (List.getElem_mem hiL)
        obtain ⟨⟨kd, p, q, ⟨nk, nm, nt, nd⟩, sn⟩, hx⟩ : ∃ x, l[i] = x := ⟨_, rfl⟩
        simp only [hx] at c0 c1 c2 c3' c4 c5 c6 c7 hp100 hq100 hd500 hsin
        clear hx
        have hni := hsin.2.2.2.1
        obtain ⟨hk0, hk1⟩ := hsin.1
        simp only at hni hk0 hk1
        have hba := (Below.refl wr.heap.size wr).alloc (Nat.le_refl _) (.cells #[.int .u64 kd, .string p, .string q, .int .i64 nk, .int .i64 nm, .int .u32 nt, .string nd, .int .i64 sn] 60)
        have hbN := Blk.new wr 60 #[.int .u64 kd, .string p, .string q, .int .i64 nk, .int .i64 nm, .int .u32 nt, .string nd, .int .i64 sn]
        obtain ⟨W1, hW1⟩ : ∃ W1, wr.alloc (.cells #[.int .u64 kd, .string p, .string q, .int .i64 nk, .int .i64 nm, .int .u32 nt, .string nd, .int .i64 sn] 60) = W1 := ⟨_, rfl⟩
        obtain ⟨N, hN⟩ : ∃ N, wr.heap.size = N := ⟨_, rfl⟩
        rw [hW1] at hba hbN
        rw [hN] at hbN
        have HW1 := Lib.hid (And.intro hW1 hN)
        have H1 := Lib.hid (And.intro (hd.below hba) (And.intro (hb.trans (hba.mono hb.size)) hbN)); clear hba hbN hW1 hN hd hb
        have HG0 := Lib.hid hgd; clear hgd
        go_upto_if 31 with fail
        rw [HW1.out.1, HW1.out.2]
        clear HW1 c0 c1 c2 c3' c4 c5 c6 c7
        go_cut [] from 23 to 33 (fun wx => ∃ (s1 : DS) (bt1 bm1 : Nat), DirAt wx bd bt1 bm1 s1 ∧ Gd room i s1 ∧ Below w.heap.size w wx ∧ Blk wx N 60 #[.int .u64 kd, .string p, .string q, .int .i64 nk, .int .i64 nm, .int .u32 nt, .string nd, .int .i64 sn])
        case first =>
          rcases Nat.decEq i fm with hif | hif
          · -- no fuse
            have hife : ((i : Int) == fm) = false := by rw [beq_eq_false_iff_ne]; omega
            clear hif
            go_wp2_with fail
            go_meet
            case rel => exact ⟨s0, bt0, bm0, H1.out.1, HG0.out, H1.out.2.1, H1.out.2.2⟩
          · have hife : ((i : Int) == fm) = true := by rw [beq_iff_eq]; omega
            clear hif
            have HFU := Lib.hid (dirFuse_any W1 bd bt0 bm0 s0 0 H1.out.1)
            go_wp2_with fail
            refine HFU.out.mono ?_
            rintro e wf ⟨rfl, hdf, hgf⟩
            have HD1 := Lib.hid (And.intro hdf (And.intro (below_grown H1.out.2.1 hgf hbd H1.out.2.1.size) (H1.out.2.2.grown hgf (by simpa using Blk.other H1.out.2.2 H1.out.1.box (by decide))))); clear hdf hgf HFU H1
            have HG1 := Lib.hid (show Gd room i { s0 with fuse := max 0 (-1) } from ⟨HG0.out.rm, HG0.out.row, HG0.out.fit, ⟨by show (-1 : Int) ≤ max 0 (-1); decide, by show max (0 : Int) (-1) ≤ 9223372036854775807; decide, HG0.out.ok.o0, HG0.out.ok.o1⟩⟩); clear HG0
            go_wp2_with fail
            go_meet
            case rel => exact ⟨_, bt0, bm0, HD1.out.1, HG1.out, HD1.out.2.1, HD1.out.2.2⟩
        case rest =>
          obtain ⟨s1, bt1, bm1, hd, hg, hb, hN⟩ := hcut
          clear H1 HG0
          have HD1 := Lib.hid (And.intro hd (And.intro hb hN)); clear hd hb hN
          have HG1 := Lib.hid hg; clear hg
          have HTB := Lib.hid (dirTree_any _ bd bt1 bm1 s1 HD1.out.1)
          go_wp2_with fail
          refine HTB.out.mono ?_
          rintro e w2 ⟨btb, bmb, rfl, htb, _, hb2⟩
          have hN2 := HD1.out.2.2.below hb2 HD1.out.2.2.lt
          have H2 := Lib.hid (And.intro (HD1.out.1.below hb2) (And.intro (HD1.out.2.1.trans (hb2.mono HD1.out.2.1.size)) (And.intro htb hN2))); clear hb2 htb HTB HD1 hN2
          have z0 := H2.out.2.2.2.cell 0
          have z1 := H2.out.2.2.2.cell 1
          have z2 := H2.out.2.2.2.cell 2
          have z3 := H2.out.2.2.2.cell 3
          have z4 := H2.out.2.2.2.cell 4
          have z5 := H2.out.2.2.2.cell 5
          have z6 := H2.out.2.2.2.cell 6
          have z7 := H2.out.2.2.2.cell 7
          simp at z0 z1 z2 z3 z4 z5 z6 z7
          obtain ⟨m, hm, hm5⟩ : ∃ m : Int, kd % 5 = m ∧ (m = 0 ∨ m = 1 ∨ m = 2 ∨ m = 3 ∨ m = 4) := ⟨kd % 5, rfl, by omega⟩
          go_upto_block 2 with fail
          go_cut [11] from 34 to 75 (fun a wx => ∃ (r : Int) (s2 : DS) (bt3 bm3 : Nat), a = .int .i64 r ∧ DirAt wx bd bt3 bm3 s2 ∧ Gd room (i + 1) s2 ∧ Below w.heap.size w wx ∧ TreeAt wx btb bmb s1.xs ∧ (¬ r = 0 → s2.xs = s1.xs) ∧ (s2.off = true → r = 10))
          case first =>
            rcases hm5 with rfl | rfl | rfl | rfl | rfl
            · -- kind 0
              have hbp : bytesT (putT s1.xs p ⟨nk, nm, nt, nd⟩) ≤ 1000000000 := by have := (HG1.out.row.put p hni hd500).bytes; omega
              have HST := Lib.hid (dirPut_any w2 bd bt1 bm1 s1 i p ⟨nk, nm, nt, nd⟩ H2.out.1 HG1.out.ok (by omega) (by have := HG1.out.row.len; omega) (by omega) (by have := parent_small p; omega) hni hbp)
              have hrm1 := HG1.out.rm
              try rw [hrm1] at HST
              clear hrm1
              have HS2 := Lib.hid (And.intro (HG1.out.put p hni hd500) (And.intro (fun h => stepD_keep (s := s1) (why := (putW room s1.xs p ⟨nk, nm, nt, nd⟩)) (ys := (putT s1.xs p ⟨nk, nm, nt, nd⟩)) h) (fun h => stepD_off (s := s1) (why := (putW room s1.xs p ⟨nk, nm, nt, nd⟩)) (ys := (putT s1.xs p ⟨nk, nm, nt, nd⟩)) h)))
              generalize stepD s1 (putW room s1.xs p ⟨nk, nm, nt, nd⟩) (putT s1.xs p ⟨nk, nm, nt, nd⟩) = RR at *
              obtain ⟨r, s2⟩ := RR
              simp only at HST HS2
              have HG2 := Lib.hid HS2.out.1
              have HK := Lib.hid HS2.out.2.1
              have HOF := Lib.hid HS2.out.2.2
              clear HS2
              simp only [Nd.c] at HST
              go_wp2_with fail
              refine HST.out.mono ?_
              rintro e w3 ⟨rfl, ⟨bt3, bm3, hd3⟩, hg3⟩
              have H3 := Lib.hid (And.intro hd3 (And.intro (below_grown H2.out.2.1 hg3 hbd H2.out.2.1.size) (H2.out.2.2.1.far H2.out.1.box (by decide) (by decide) (by decide) hg3))); clear hd3 hg3 HST H2 z0 z1 z2 z3 z4 z5 z6 z7
              go_wp2_with fail
              go_meet
              case rel => exact ⟨r, s2, bt3, bm3, rfl, H3.out.1, HG2.out, H3.out.2.1, H3.out.2.2, HK.out, HOF.out⟩
            · -- kind 1
              have HST := Lib.hid (dirRemove_any w2 bd bt1 bm1 s1 i p H2.out.1 HG1.out.ok (by omega) (by have := HG1.out.row.len; omega) (by omega))
              have hrm1 := HG1.out.rm
              try rw [hrm1] at HST
              clear hrm1
              have HS2 := Lib.hid (And.intro (HG1.out.remove p) (And.intro (fun h => stepD_keep (s := s1) (why := (whyDrop s1.xs p)) (ys := (dropT s1.xs p)) h) (fun h => stepD_off (s := s1) (why := (whyDrop s1.xs p)) (ys := (dropT s1.xs p)) h)))
              generalize stepD s1 (whyDrop s1.xs p) (dropT s1.xs p) = RR at *
              obtain ⟨r, s2⟩ := RR
              simp only at HST HS2
              have HG2 := Lib.hid HS2.out.1
              have HK := Lib.hid HS2.out.2.1
              have HOF := Lib.hid HS2.out.2.2
              clear HS2
              go_wp2_with fail
              refine HST.out.mono ?_
              rintro e w3 ⟨rfl, ⟨bt3, bm3, hd3⟩, hg3⟩
              have H3 := Lib.hid (And.intro hd3 (And.intro (below_grown H2.out.2.1 hg3 hbd H2.out.2.1.size) (H2.out.2.2.1.far H2.out.1.box (by decide) (by decide) (by decide) hg3))); clear hd3 hg3 HST H2 z0 z1 z2 z3 z4 z5 z6 z7
              go_wp2_with fail
              go_meet
              case rel => exact ⟨r, s2, bt3, bm3, rfl, H3.out.1, HG2.out, H3.out.2.1, H3.out.2.2, HK.out, HOF.out⟩
            · -- kind 2
              have HST := Lib.hid (dirClear_any w2 bd bt1 bm1 s1 i p H2.out.1 HG1.out.row.ti HG1.out.ok (by omega) (by have := HG1.out.row.len; omega) (by omega))
              have hrm1 := HG1.out.rm
              try rw [hrm1] at HST
              clear hrm1
              have HS2 := Lib.hid (And.intro (HG1.out.clear p) (And.intro (fun h => stepD_keep (s := s1) (why := (clearW s1.xs p)) (ys := (s1.xs.filter (awayT p))) h) (fun h => stepD_off (s := s1) (why := (clearW s1.xs p)) (ys := (s1.xs.filter (awayT p))) h)))
              generalize stepD s1 (clearW s1.xs p) (s1.xs.filter (awayT p)) = RR at *
              obtain ⟨r, s2⟩ := RR
              simp only at HST HS2
              have HG2 := Lib.hid HS2.out.1
              have HK := Lib.hid HS2.out.2.1
              have HOF := Lib.hid HS2.out.2.2
              clear HS2
              go_wp2_with fail
              refine HST.out.mono ?_
              rintro e w3 ⟨rfl, ⟨bt3, bm3, hd3⟩, hg3⟩
              have H3 := Lib.hid (And.intro hd3 (And.intro (below_grown H2.out.2.1 hg3 hbd H2.out.2.1.size) (H2.out.2.2.1.far H2.out.1.box (by decide) (by decide) (by decide) hg3))); clear hd3 hg3 HST H2 z0 z1 z2 z3 z4 z5 z6 z7
              go_wp2_with fail
              go_meet
              case rel => exact ⟨r, s2, bt3, bm3, rfl, H3.out.1, HG2.out, H3.out.2.1, H3.out.2.2, HK.out, HOF.out⟩
            · -- kind 3
              have HST := Lib.hid (dirRename_any w2 bd bt1 bm1 s1 i p q H2.out.1 HG1.out.row.ti HG1.out.ok (by omega) (by have := HG1.out.row.len; omega) (by omega) (by omega) (fun e he => ⟨by have := HG1.out.row.size e he; omega, HG1.out.row.nd e he⟩))
              have hrm1 := HG1.out.rm
              try rw [hrm1] at HST
              clear hrm1
              have HS2 := Lib.hid (And.intro (HG1.out.rename (by omega) p q) (And.intro (fun h => stepD_keep (s := s1) (why := (renW s1.xs p q)) (ys := (renT s1.xs p q)) h) (fun h => stepD_off (s := s1) (why := (renW s1.xs p q)) (ys := (renT s1.xs p q)) h)))
              generalize stepD s1 (renW s1.xs p q) (renT s1.xs p q) = RR at *
              obtain ⟨r, s2⟩ := RR
              simp only at HST HS2
              have HG2 := Lib.hid HS2.out.1
              have HK := Lib.hid HS2.out.2.1
              have HOF := Lib.hid HS2.out.2.2
              clear HS2
              go_wp2_with fail
              refine HST.out.mono ?_
              rintro e w3 ⟨rfl, ⟨bt3, bm3, hd3⟩, hg3⟩
              have H3 := Lib.hid (And.intro hd3 (And.intro (below_grown H2.out.2.1 hg3 hbd H2.out.2.1.size) (H2.out.2.2.1.far H2.out.1.box (by decide) (by decide) (by decide) hg3))); clear hd3 hg3 HST H2 z0 z1 z2 z3 z4 z5 z6 z7
              go_wp2_with fail
              go_meet
              case rel => exact ⟨r, s2, bt3, bm3, rfl, H3.out.1, HG2.out, H3.out.2.1, H3.out.2.2, HK.out, HOF.out⟩
            · -- a graft
              have HGR := Lib.hid (fun W => grafts_any W ⟨kd, p, q, ⟨nk, nm, nt, nd⟩, sn⟩ hsin)
              have hgm : ∀ e ∈ graftsL ⟨kd, p, q, ⟨nk, nm, nt, nd⟩, sn⟩, e.1.size ≤ 90000 ∧ NdIn e.2 ∧ e.2.data.size ≤ 500 := fun e he => by
                obtain ⟨h1, h2⟩ := graftsL_mem he
                refine ⟨?_, by rw [h2]; exact hni, by rw [h2]; exact hd500⟩
                rcases h1 with h1 | h1
                · rw [h1]; show p.size ≤ 90000; omega
                · rw [h1]; show q.size ≤ 90000; omega
              have HGM := Lib.hid hgm; clear hgm
              have hgl := graftsL_len ⟨kd, p, q, ⟨nk, nm, nt, nd⟩, sn⟩
              generalize graftsL ⟨kd, p, q, ⟨nk, nm, nt, nd⟩, sn⟩ = L at *
              have hGRF := HG1.out.graft p (L := L) (fun e he => (HGM.out e he).2) hgl
              have hbp : bytesT (putsT (s1.xs.filter (awayT p)) L).2 ≤ 1000000000 := by have := ((HG1.out.row.away p).puts (fun e he => (HGM.out e he).2) hgl).bytes; omega
              have HGB := Lib.hid (And.intro hGRF hbp); clear hGRF hbp
              have hl2 := H2.out.2.2.2.lt
              have j0 : ∀ m : Held (fun W => Blk W N 60 #[.int .u64 kd, .string p, .string q, .int .i64 nk, .int .i64 nm, .int .u32 nt, .string nd, .int .i64 sn]), (HeldW m).cell? ⟨N, 0, none⟩ = some (.int .u64 kd) := fun m => (HeldW_spec m).cell 0
              have j1 : ∀ m : Held (fun W => Blk W N 60 #[.int .u64 kd, .string p, .string q, .int .i64 nk, .int .i64 nm, .int .u32 nt, .string nd, .int .i64 sn]), (HeldW m).cell? ⟨N, 1, none⟩ = some (.string p) := fun m => (HeldW_spec m).cell 1
              have j2 : ∀ m : Held (fun W => Blk W N 60 #[.int .u64 kd, .string p, .string q, .int .i64 nk, .int .i64 nm, .int .u32 nt, .string nd, .int .i64 sn]), (HeldW m).cell? ⟨N, 2, none⟩ = some (.string q) := fun m => (HeldW_spec m).cell 2
              have j3 : ∀ m : Held (fun W => Blk W N 60 #[.int .u64 kd, .string p, .string q, .int .i64 nk, .int .i64 nm, .int .u32 nt, .string nd, .int .i64 sn]), (HeldW m).cell? ⟨N, 3, none⟩ = some (.int .i64 nk) := fun m => (HeldW_spec m).cell 3
              have j4 : ∀ m : Held (fun W => Blk W N 60 #[.int .u64 kd, .string p, .string q, .int .i64 nk, .int .i64 nm, .int .u32 nt, .string nd, .int .i64 sn]), (HeldW m).cell? ⟨N, 4, none⟩ = some (.int .i64 nm) := fun m => (HeldW_spec m).cell 4
              have j5 : ∀ m : Held (fun W => Blk W N 60 #[.int .u64 kd, .string p, .string q, .int .i64 nk, .int .i64 nm, .int .u32 nt, .string nd, .int .i64 sn]), (HeldW m).cell? ⟨N, 5, none⟩ = some (.int .u32 nt) := fun m => (HeldW_spec m).cell 5
              have j6 : ∀ m : Held (fun W => Blk W N 60 #[.int .u64 kd, .string p, .string q, .int .i64 nk, .int .i64 nm, .int .u32 nt, .string nd, .int .i64 sn]), (HeldW m).cell? ⟨N, 6, none⟩ = some (.string nd) := fun m => (HeldW_spec m).cell 6
              have j7 : ∀ m : Held (fun W => Blk W N 60 #[.int .u64 kd, .string p, .string q, .int .i64 nk, .int .i64 nm, .int .u32 nt, .string nd, .int .i64 sn]), (HeldW m).cell? ⟨N, 7, none⟩ = some (.int .i64 sn) := fun m => (HeldW_spec m).cell 7
              have H2D := Lib.hid (And.intro (H2.out.1.below ((Below.refl _ w2).drew)) (And.intro (H2.out.2.1.trans (((Below.refl _ w2).drew).mono H2.out.2.1.size)) (And.intro (H2.out.2.2.1.below ((Below.refl _ w2).drew)) (H2.out.2.2.2.below ((Below.refl _ w2).drew) hl2))))
              have HC0 := Lib.hid H2D.out.2.2.2
              go_wp2_with fail
              refine wp_region_mix (fun W => Blk W N 60 #[.int .u64 kd, .string p, .string q, .int .i64 nk, .int .i64 nm, .int .u32 nt, .string nd, .int .i64 sn]) [(0, true), (1, true), (2, true), (3, true), (4, false), (5, false), (6, true)] (by kernel_rfl) (by kernel_rfl) ?_
              simp only [pickP, List.filterMap_cons, List.filterMap_nil, List.getElem?_toArray, List.getElem?_cons_succ, List.getElem?_cons_zero, Option.map_some]
              repeat (apply mix_first; apply Exists.intro; refine ⟨fun m => ?_, HC0.out, ?_⟩; · (go_big_quiet_step (fail); exact wpQuiet_nil rfl))
              refine mix_forced HC0.out ?_
              go_wp2_with fail
              refine (HGR.out _).mono ?_
              rintro e wg ⟨Ag, jg, cg, rfl, hvg, hbg⟩
              have HCG := Lib.hid (HC0.out.below hbg HC0.out.lt)
              have H2G := Lib.hid (And.intro (H2D.out.1.below hbg) (And.intro (H2D.out.2.1.trans (hbg.mono H2D.out.2.1.size)) (And.intro (H2D.out.2.2.1.below hbg) hvg)))
              clear hbg hvg HC0 H2D HGR
              have HST := Lib.hid (dirGraft_any wg bd bt1 bm1 s1 i p _ L H2G.out.1 HG1.out.row.ti HG1.out.ok (by omega) (by have := HG1.out.row.len; omega) (by omega) (by omega) (fun e he => ⟨(HGM.out e he).1, (HGM.out e he).2.1⟩) HGB.out.2 H2G.out.2.2.2)
              have HS2 := Lib.hid (And.intro HGB.out.1 (And.intro (fun h => stepD_keep (s := s1) (why := (graftW s1.room s1.xs p L).1) (ys := (graftW s1.room s1.xs p L).2) h) (fun h => stepD_off (s := s1) (why := (graftW s1.room s1.xs p L).1) (ys := (graftW s1.room s1.xs p L).2) h)))
              have hrm1 := HG1.out.rm
              rw [hrm1] at HST HS2
              have hGB := HGB
              clear hrm1 HGB hGB
              generalize stepD s1 (graftW room s1.xs p L).1 (graftW room s1.xs p L).2 = RR at *
              obtain ⟨r, s2⟩ := RR
              simp only at HST HS2
              have HG2 := Lib.hid HS2.out.1
              have HK := Lib.hid HS2.out.2.1
              have HOF := Lib.hid HS2.out.2.2
              clear HS2
              go_wp2_with fail
              show mixC _ _ _ _ _ _ _
              refine mix_forced HCG.out ?_
              go_wp2_with fail
              refine HST.out.mono ?_
              rintro e w3 ⟨rfl, ⟨bt3, bm3, hd3⟩, hg3⟩
              have H3 := Lib.hid (And.intro hd3 (And.intro (below_grown H2G.out.2.1 hg3 hbd H2G.out.2.1.size) (H2G.out.2.2.1.far H2G.out.1.box (by decide) (by decide) (by decide) hg3)))
              have HC3 := Lib.hid (HCG.out.grown hg3 (by simpa using Blk.other HCG.out H2G.out.1.box (by decide)))
              clear hd3 hg3 HST H2G H2 z0 z1 z2 z3 z4 z5 z6 z7 HCG
              go_wp2_with fail
              show mixC _ _ _ _ _ _ _
              repeat (apply mix_first; apply Exists.intro; refine ⟨fun m => ?_, HC3.out, ?_⟩; · (go_big_quiet_step (fail); exact wpQuiet_nil rfl))
              refine mix_nil HC3.out ?_
              clear j0 j1 j2 j3 j4 j5 j6 j7 HC3
              go_wp2_with fail
              go_meet
              case rel => exact ⟨r, s2, bt3, bm3, rfl, H3.out.1, HG2.out, H3.out.2.1, H3.out.2.2, HK.out, HOF.out⟩
          case rest =>
            obtain ⟨r, s2, bt3, bm3, rfl, hd3, hg3, hb3, ht3, hk3, ho3⟩ := hcut
            clear H2 z0 z1 z2 z3 z4 z5 z6 z7 hm hm5
            have H3 := Lib.hid (And.intro hd3 (And.intro hb3 ht3)); clear hd3 hb3 ht3
            have HG2 := Lib.hid hg3; clear hg3
            have HK := Lib.hid hk3; clear hk3
            have HOF := Lib.hid ho3; clear ho3
            have HTR := Lib.hid (dirTree_any _ bd bt3 bm3 s2 H3.out.1)
            go_wp2_with fail
            refine HTR.out.mono ?_
            rintro e w4 ⟨bt4, bm4, rfl, ht4, _, hb4⟩
            have HIT := Lib.hid (treeItems_any w4 bt4 bm4 s2.xs ht4 (by have := HG2.out.row.len; omega))
            have H4 := Lib.hid (And.intro (H3.out.1.below hb4) (And.intro (H3.out.2.1.trans (hb4.mono H3.out.2.1.size)) (H3.out.2.2.below hb4))); clear hb4 ht4 HTR H3
            go_wp2_with fail
            refine HIT.out.mono ?_
            rintro e w5 ⟨r5, rfl, ho5, hb5⟩
            obtain ⟨A5, c5, rfl, _, _, _⟩ := SlV_of_any ho5
            obtain ⟨n5, hn5⟩ : ∃ n5, s2.xs.length = n5 := ⟨_, rfl⟩
            rw [hn5] at ho5
            rw [hn5]
            have HN5 := Lib.hid hn5; clear hn5
            have H5 := Lib.hid (And.intro (H4.out.1.below hb5) (And.intro (H4.out.2.1.trans (hb5.mono H4.out.2.1.size)) (And.intro (H4.out.2.2.below hb5) ho5))); clear hb5 ho5 HIT H4
            have hrt := fun W (h : SlV W 5 eCSN (.slice A5 n5 c5) s2.xs) => ref16Right_any W _ s2.xs h (by have := HG2.out.row.len; omega) (fun e he => ⟨by have := HG2.out.row.size e he; omega, HG2.out.row.nd e he⟩)
            have HRT := Lib.hid hrt; clear hrt
            have HPS := Lib.hid (puts_self HG2.out.row.ti (by have := HG2.out.row.len; omega))
            by_cases hr : r = 0
            · have hre : (r != 0) = false := by rw [hr]; rfl
              have hW6 : SlV w5 5 eCSN (.slice A5 n5 c5) s2.xs := H5.out.2.2.2.slv
              have HR6 := Lib.hid (HRT.out w5 hW6)
              clear hr hW6
              go_wp2_with fail
              refine HR6.out.mono ?_
              rintro e wa ⟨R, rfl, hR, hba⟩
              obtain rfl : R = true := hR.2 HPS.out
              have HA := Lib.hid (And.intro (H5.out.1.below hba) (H5.out.2.1.trans (hba.mono H5.out.2.1.size))); clear hba hR HR6 HRT H5
              have HBY := Lib.hid (fun W (h : DirAt W bd bt3 bm3 s2) => dirBytes_any W bd bt3 bm3 s2 h (by have := HG2.out.row.len; omega) (by have := HG2.out.row.bytes; omega))
              have HOF2 := Lib.hid (fun W (h : DirAt W bd bt3 bm3 s2) => dirOff_any W bd bt3 bm3 s2 h)
              by_cases hrm : 0 ≤ room
              · have hfit := HG2.out.fit hrm
                have hfit2 : ¬ room < (bytesT s2.xs : Int) := by omega
                generalize bytesT s2.xs = B at *
                have HBA := Lib.hid (HBY.out wa HA.out.1)
                go_wp2_with fail
                refine HBA.out.mono ?_
                rintro e wb ⟨rfl, hbb⟩
                have HB := Lib.hid (And.intro (HA.out.1.below hbb) (HA.out.2.trans (hbb.mono HA.out.2.size))); clear hbb HBA HBY HA
                have HOB := Lib.hid (HOF2.out wb HB.out.1)
                cases hof : s2.off with
                | true =>
                  rw [hof] at HOB
                  have hr10 : (r != 10) = false := by rw [HOF.out hof]; rfl
                  go_wp2_with fail
                  refine HOB.out.mono ?_
                  rintro e _ ⟨rfl, rfl⟩
                  go_wp2_with fail
                  go_roundw
                  case rel => exact ⟨i + 1, bt3, bm3, s2, by omega, by go_num, HB.out.1, HG2.out, HB.out.2⟩
                  case measure => simp [intOf]; omega
                | false =>
                  rw [hof] at HOB
                  go_wp2_with fail
                  refine HOB.out.mono ?_
                  rintro e _ ⟨rfl, rfl⟩
                  go_wp2_with fail
                  go_roundw
                  case rel => exact ⟨i + 1, bt3, bm3, s2, by omega, by go_num, HB.out.1, HG2.out, HB.out.2⟩
                  case measure => simp [intOf]; omega
              · have hrm2 : decide (0 ≤ room) = false := decide_eq_false hrm
                have HB := HA; clear HA
                have HOB := Lib.hid (HOF2.out wa HB.out.1)
                cases hof : s2.off with
                | true =>
                  rw [hof] at HOB
                  have hr10 : (r != 10) = false := by rw [HOF.out hof]; rfl
                  go_wp2_with fail
                  refine HOB.out.mono ?_
                  rintro e _ ⟨rfl, rfl⟩
                  go_wp2_with fail
                  go_roundw
                  case rel => exact ⟨i + 1, bt3, bm3, s2, by omega, by go_num, HB.out.1, HG2.out, HB.out.2⟩
                  case measure => simp [intOf]; omega
                | false =>
                  rw [hof] at HOB
                  go_wp2_with fail
                  refine HOB.out.mono ?_
                  rintro e _ ⟨rfl, rfl⟩
                  go_wp2_with fail
                  go_roundw
                  case rel => exact ⟨i + 1, bt3, bm3, s2, by omega, by go_num, HB.out.1, HG2.out, HB.out.2⟩
                  case measure => simp [intOf]; omega
            · have hre : (r != 0) = true := by rw [bne_iff_ne]; exact hr
              have hxe := HK.out hr
              have HIB := Lib.hid (treeItems_any w5 btb bmb s1.xs H5.out.2.2.1 (by have := HG1.out.row.len; omega))
              clear hr
              go_wp2_with fail
              refine HIB.out.mono ?_
              rintro e w6 ⟨r6, rfl, ho6, hb6⟩
              obtain ⟨A6, c6, rfl, _, _, _⟩ := SlV_of_any ho6
              have H6 := Lib.hid (And.intro (H5.out.1.below hb6) (And.intro (H5.out.2.1.trans (hb6.mono H5.out.2.1.size)) (And.intro (H5.out.2.2.1.below hb6) (H5.out.2.2.2.below hb6))))
              have HWH := Lib.hid (ref16Whole_same w6 _ _ s2.xs H6.out.2.2.2.slv (by rw [hxe]; exact ho6.slv)); clear ho6 hb6 HIB H5 hxe
              have H5 := H6; clear H6
              go_wp2_with fail
              refine HWH.out.mono ?_
              rintro e w7 ⟨rfl, hb7⟩
              have H6 := Lib.hid (And.intro (H5.out.1.below hb7) (And.intro (H5.out.2.1.trans (hb7.mono H5.out.2.1.size)) (And.intro (H5.out.2.2.1.below hb7) (H5.out.2.2.2.below hb7)))); clear hb7 HWH H5
              have H5 := H6; clear H6
              have HR6 := Lib.hid (HRT.out w7 H5.out.2.2.2.slv)
              go_wp2_with fail
              refine HR6.out.mono ?_
              rintro e wa ⟨R, rfl, hR, hba⟩
              obtain rfl : R = true := hR.2 HPS.out
              have HA := Lib.hid (And.intro (H5.out.1.below hba) (H5.out.2.1.trans (hba.mono H5.out.2.1.size))); clear hba hR HR6 HRT H5
              have HBY := Lib.hid (fun W (h : DirAt W bd bt3 bm3 s2) => dirBytes_any W bd bt3 bm3 s2 h (by have := HG2.out.row.len; omega) (by have := HG2.out.row.bytes; omega))
              have HOF2 := Lib.hid (fun W (h : DirAt W bd bt3 bm3 s2) => dirOff_any W bd bt3 bm3 s2 h)
              by_cases hrm : 0 ≤ room
              · have hfit := HG2.out.fit hrm
                have hfit2 : ¬ room < (bytesT s2.xs : Int) := by omega
                generalize bytesT s2.xs = B at *
                have HBA := Lib.hid (HBY.out wa HA.out.1)
                go_wp2_with fail
                refine HBA.out.mono ?_
                rintro e wb ⟨rfl, hbb⟩
                have HB := Lib.hid (And.intro (HA.out.1.below hbb) (HA.out.2.trans (hbb.mono HA.out.2.size))); clear hbb HBA HBY HA
                have HOB := Lib.hid (HOF2.out wb HB.out.1)
                cases hof : s2.off with
                | true =>
                  rw [hof] at HOB
                  have hr10 : (r != 10) = false := by rw [HOF.out hof]; rfl
                  go_wp2_with fail
                  refine HOB.out.mono ?_
                  rintro e _ ⟨rfl, rfl⟩
                  go_wp2_with fail
                  go_roundw
                  case rel => exact ⟨i + 1, bt3, bm3, s2, by omega, by go_num, HB.out.1, HG2.out, HB.out.2⟩
                  case measure => simp [intOf]; omega
                | false =>
                  rw [hof] at HOB
                  go_wp2_with fail
                  refine HOB.out.mono ?_
                  rintro e _ ⟨rfl, rfl⟩
                  go_wp2_with fail
                  go_roundw
                  case rel => exact ⟨i + 1, bt3, bm3, s2, by omega, by go_num, HB.out.1, HG2.out, HB.out.2⟩
                  case measure => simp [intOf]; omega
              · have hrm2 : decide (0 ≤ room) = false := decide_eq_false hrm
                have HB := HA; clear HA
                have HOB := Lib.hid (HOF2.out wa HB.out.1)
                cases hof : s2.off with
                | true =>
                  rw [hof] at HOB
                  have hr10 : (r != 10) = false := by rw [HOF.out hof]; rfl
                  go_wp2_with fail
                  refine HOB.out.mono ?_
                  rintro e _ ⟨rfl, rfl⟩
                  go_wp2_with fail
                  go_roundw
                  case rel => exact ⟨i + 1, bt3, bm3, s2, by omega, by go_num, HB.out.1, HG2.out, HB.out.2⟩
                  case measure => simp [intOf]; omega
                | false =>
                  rw [hof] at HOB
                  go_wp2_with fail
                  refine HOB.out.mono ?_
                  rintro e _ ⟨rfl, rfl⟩
                  go_wp2_with fail
                  go_roundw
                  case rel => exact ⟨i + 1, bt3, bm3, s2, by omega, by go_num, HB.out.1, HG2.out, HB.out.2⟩
                  case measure => simp [intOf]; omega
      · obtain rfl : i = n := by omega
        have hpn := fun W => dirPutNil_any W ⟨#[97]⟩ ⟨2, 0, 0, ⟨#[]⟩⟩
        have hgn := fun W => dirGetNil_any W ⟨#[97]⟩
        have hez := fun W => eq_node ⟨#[]⟩ 0 0 0 W
        simp only [Nd.c, ndZ] at hpn hgn
        have HPN := Lib.hid hpn
        have HGN := Lib.hid hgn
        have HB0 := Lib.hid hb
        clear hpn hgn hb hd hgd
        go_wp2_with fail
        refine (dirFuseNil_any _ 1).mono ?_
        rintro e _ ⟨rfl, rfl⟩
        go_wp2_with fail
        refine (dirRestartNil_any _).mono ?_
        rintro e _ ⟨rfl, rfl⟩
        go_wp2_with fail
        refine (HPN.out _).mono ?_
        rintro e v1 ⟨rfl, hb1⟩
        have HB1 := Lib.hid (HB0.out.trans (hb1.mono HB0.out.size)); clear hb1 HB0 HPN
        go_wp2_with fail
        refine (dirRemoveNil_any _ _).mono ?_
        rintro e v2 ⟨rfl, hb1⟩
        have HB2 := Lib.hid (HB1.out.trans (hb1.mono HB1.out.size)); clear hb1 HB1
        go_wp2_with fail
        refine (dirClearNil_any _ _).mono ?_
        rintro e v3 ⟨rfl, hb1⟩
        have HB3 := Lib.hid (HB2.out.trans (hb1.mono HB2.out.size)); clear hb1 HB2
        go_wp2_with fail
        refine (dirGraftNil_any _ _).mono ?_
        rintro e v4 ⟨rfl, hb1⟩
        have HB4 := Lib.hid (HB3.out.trans (hb1.mono HB3.out.size)); clear hb1 HB3
        go_wp2_with fail
        refine (dirRenameNil_any _ _ _).mono ?_
        rintro e v5 ⟨rfl, hb1⟩
        have HB5 := Lib.hid (HB4.out.trans (hb1.mono HB4.out.size)); clear hb1 HB4
        go_wp2_with fail
        refine (HGN.out _).mono ?_
        rintro e v6 ⟨rfl, hb1⟩
        have HB6 := Lib.hid (HB5.out.trans (hb1.mono HB5.out.size)); clear hb1 HB5 HGN
        go_wp2_with fail
        refine (dirBytesNil_any _).mono ?_
        rintro e v7 ⟨rfl, hb1⟩
        have HB7 := Lib.hid (HB6.out.trans (hb1.mono HB6.out.size)); clear hb1 HB6
        go_wp2_with fail
        refine (dirOpsNil_any _).mono ?_
        rintro e _ ⟨rfl, rfl⟩
        go_wp2_with fail
        refine (dirTreeNil_any _).mono ?_
        rintro e v8 ⟨btn, bmn, rfl, htn, hb1⟩
        have HLN := Lib.hid (treeLen_any v8 btn bmn [] htn)
        have HB8 := Lib.hid (HB7.out.trans (hb1.mono HB7.out.size)); clear hb1 HB7 htn
        go_wp2_with fail
        refine HLN.out.mono ?_
        rintro e _ ⟨rfl, rfl⟩
        go_wp2_with fail
        refine (dirOffNil_any _).mono ?_
        rintro e _ ⟨rfl, rfl⟩
        go_wp2_with fail
        refine (HLV.out _).mono ?_
        rintro e v9 ⟨rfl, hb1⟩
        have HB9 := Lib.hid (HB8.out.trans (hb1.mono HB8.out.size)); clear hb1 HB8
        go_wp2_with fail
        go_ret
        exact ⟨rfl, HB9.out⟩
end Go.Proofs.YtcpmhjealiajpaaGreatDoor
/- The walk of DirfsWhole in the statement's form. -/
set_option linter.unusedVariables false
set_option linter.unusedSimpArgs false
namespace Go.Proofs.YtcpmhjealiajpaaGreatDoor
open Go Go.ChangeShapes Go.WideShapes Go.ChangeAt Go.RowKit Go.Shelf
open Sw
set_option maxRecDepth 100000 in
theorem dirfsWhole_walk : Walks 6 Tryz.f6 := by
  intro H enc W base args ds ps hval hA hlt hsz
  rw [Tryz.params6] at hA hval
  obtain ⟨v0, v1, v2, d0, d1, d2, p0, p1, p2, rfl, rfl, rfl, h0, h1, h2⟩ := trodAll_three hA
  obtain ⟨a, rfl, rfl, rfl, wa⟩ := open_int Tryz.underlying3 (hval 0 3 v0 rfl rfl) h0
  obtain ⟨A, n, c, l, rfl, hnc, hcm, hl, hsl, hv, _⟩ := open_slice_dec (size := 8) st18C St18In Tryz.underlying54 (by kernel_rfl) (by omega) dec_st18 (hval 1 54 v1 rfl rfl) h1
  obtain ⟨m, rfl, rfl, rfl, wm⟩ := open_int Tryz.underlying23 (hval 2 23 v2 rfl rfl) h2
  obtain ⟨m0, m1⟩ := bounds_u64 wm
  obtain ⟨k, rfl⟩ := Int.eq_ofNat_of_zero_le m0
  exact dirfsWhole_main W A n c l a k hl hnc hcm hsl hv (by omega)
end Go.Proofs.YtcpmhjealiajpaaGreatDoor
