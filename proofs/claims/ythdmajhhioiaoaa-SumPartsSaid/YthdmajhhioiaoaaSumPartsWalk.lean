/- The walk of SumParts. -/
import Derived.Test.YthdmajhhioiaoaaLift
import Derived.Test.YthdmajhhioiaoaaSumNought
import Derived.Test.YthdmajhhioiaoaaGrow
import Derived.Deep.RegionLaw
import Derived.Deep.CutRange
set_option linter.unusedVariables false
set_option linter.unusedSimpArgs false
namespace Go.Proofs.Ythdmajhhioiaoaa
open Go.ChangeShapes Go.WideShapes Go.ChangeAt Go.RowKit
open Go.ChangeMaps (open_string shut_string)
open Sw
theorem feed_one (w : World) (g h : Nat) (cs : Array Value) (x : Nat) (s : ByteArray) (hx : x < 4294967296) (ht : IsTab cs) (hs : s.size ≤ 2000) (hg : Blk w g 31 cs) (hh : Blk w h 9 #[.string s]) :
    Calls Try.prog 20 #[.pointer (some ⟨g, 0, none⟩), .int .u32 x, .slice (some ⟨h, 0, none⟩) 1 1] w fun e w' => e = .returned (.int .u32 (feedS x s.data.toList : Nat)) ∧ w = w' := by
  have e : feedS x s.data.toList = feedL x [s] := by rw [feedL, feedL]
  rw [e]
  exact feed_any w g cs x _ 1 1 [s] hx hg ht rfl (by unfold maxLen; omega) (SlOf.of_blk1 (e := Value.string) hh rfl) (by
    intro t ht
    simp at ht
    subst ht
    unfold maxLen
    omega)
theorem feed_begin (w : World) (g h : Nat) (cs : Array Value) (s : ByteArray) (ht : IsTab cs) (hs : s.size ≤ 2000) (hg : Blk w g 31 cs) (hh : Blk w h 9 #[.string s]) :
    Calls Try.prog 20 #[.pointer (some ⟨g, 0, none⟩), .int .u32 4294967295, .slice (some ⟨h, 0, none⟩) 1 1] w fun e w' => e = .returned (.int .u32 (feedS 4294967295 s.data.toList : Nat)) ∧ w = w' :=
  feed_one w g h cs 4294967295 s (by omega) ht hs hg hh
theorem blk_new2 (w : World) (c1 : Array Value) (t1 : TypeId) (c2 : Array Value) (t2 : TypeId) : Blk ((w.alloc (.cells c1 t1)).alloc (.cells c2 t2)) (w.heap.size + 1) t2 c2 := by
  have h := Blk.new (w.alloc (.cells c1 t1)) t2 c2
  rw [World.size_alloc] at h
  exact h
theorem blk_new1 (w : World) (c1 : Array Value) (t1 : TypeId) (c2 : Array Value) (t2 : TypeId) : Blk ((w.alloc (.cells c1 t1)).alloc (.cells c2 t2)) w.heap.size t1 c1 := (Blk.new w t1 c1).alloc _
def xorT (s u : ByteArray) (k : Nat) : List UInt8 := xorL (s.data.toList.take k) (u.data.toList.take k)
theorem xorL_append (a b : List UInt8) (x y : UInt8) (h : a.length = b.length) : xorL (a ++ [x]) (b ++ [y]) = xorL a b ++ [x ^^^ y] := by
  induction a generalizing b with
  | nil =>
    match b, h with
    | [], _ => rfl
  | cons c a ih =>
    match b, h with
    | d :: b, h => rw [List.cons_append, List.cons_append, xorL, ih b (by simpa using h), xorL, List.cons_append]
theorem xorT_succ (s u : ByteArray) (k : Nat) (hs : k < s.size) (hu : k < u.size) : xorT s u (k + 1) = xorT s u k ++ [s[k] ^^^ u[k]] := by
  unfold xorT
  rw [List.take_succ_eq_append_getElem (by simpa using hs), List.take_succ_eq_append_getElem (by simpa using hu), xorL_append _ _ _ _ (by simp; omega)]
  rfl
theorem xor_walk (a b : UInt8) : bits .xor .u8 (a.toNat : Int) (b.toNat : Int) = ((a.toNat ^^^ b.toNat : Nat) : Int) := u8_xor_nat _ _ a.toNat_lt b.toNat_lt
theorem info_u8 : (Try.prog.info? 5).map (fun i => (i.zero, i.size, i.bytes)) = some (some (.int .u8 0), 1, 1) := by kernel_rfl
theorem size_xorT (s u : ByteArray) (k : Nat) (hs : k ≤ s.size) (hu : k ≤ u.size) : (⟨(xorT s u k).toArray⟩ : ByteArray).size = k := by
  show (xorT s u k).toArray.size = k
  simp only [List.size_toArray]
  induction k with
  | zero => rfl
  | succ k ih => rw [xorT_succ s u k (by omega) (by omega), List.length_append, ih (by omega) (by omega)]; rfl
theorem take_data (s : ByteArray) (k : Nat) : s.data.toList.take k = (s.extract 0 k).data.toList := by
  simp
theorem three_of (s u : ByteArray) (k : Nat) (hs : k ≤ s.size) (hu : k ≤ u.size) : ofS (xorT s u k) = ofS (s.extract 0 k).data.toList ^^^ ofS (u.extract 0 k).data.toList ^^^ ofS (List.replicate k 0) := by
  have hl : (s.data.toList.take k).length = k := by
    rw [List.length_take, Array.length_toList, ByteArray.size_data]; omega
  have hl2 : (u.data.toList.take k).length = k := by
    rw [List.length_take, Array.length_toList, ByteArray.size_data]; omega
  unfold xorT
  rw [ofS_three _ _ (by rw [hl, hl2]), hl, take_data, take_data]
/-- what is known behind the loop: the two texts can be read, and lie as they lay -/
def Sums (w : World) (m o : Value) (k : Nat) (l : List UInt8) (w' : World) : Prop :=
  (convert 69 9 m).run Try.prog w' = .ok (.string ⟨l.toArray⟩) w' ∧ (convert 69 9 o).run Try.prog w' = .ok (.string ⟨(List.replicate k (0 : UInt8)).toArray⟩) w' ∧
    Two w' w.heap.size 5 1 m k (bytesV l) o k (bytesV (List.replicate k 0)) ∧ Below w.heap.size w w'
theorem Sums.mk' {w w' : World} {m o : Value} {k : Nat} {l : List UInt8} (h : Two w' w.heap.size 5 1 m k (bytesV l) o k (bytesV (List.replicate k 0))) (hb : Below w.heap.size w w') : Sums w m o k l w' :=
  ⟨conv_own (P := Try.prog) 69 9 5 Try.underlying69 Try.underlying5 Try.underlying9 w.heap.size m k _ h.a,
   conv_own (P := Try.prog) 69 9 5 Try.underlying69 Try.underlying5 Try.underlying9 w.heap.size o k _ h.b, h, hb⟩
theorem Sums.below {w w' w'' : World} {m o : Value} {k : Nat} {l : List UInt8} (h : Sums w m o k l w') (hb : Below w'.heap.size w' w'') : Sums w m o k l w'' :=
  .mk' (h.2.2.1.kept hb) (h.2.2.2.trans (hb.mono h.2.2.2.size))
theorem keepS {w w' w'' : World} {m o : Value} {k : Nat} {l : List UInt8} {mx zx : ByteArray} (hm : (⟨l.toArray⟩ : ByteArray) = mx) (hz : (⟨(List.replicate k (0 : UInt8)).toArray⟩ : ByteArray) = zx)
    (h : (convert 69 9 m).run Try.prog w' = .ok (.string mx) w' ∧ (convert 69 9 o).run Try.prog w' = .ok (.string zx) w' ∧
      Two w' w.heap.size 5 1 m k (bytesV l) o k (bytesV (List.replicate k 0)) ∧ Below w.heap.size w w') (hb : Below w'.heap.size w' w'') :
    (convert 69 9 m).run Try.prog w'' = .ok (.string mx) w'' ∧ (convert 69 9 o).run Try.prog w'' = .ok (.string zx) w'' ∧
      Two w'' w.heap.size 5 1 m k (bytesV l) o k (bytesV (List.replicate k 0)) ∧ Below w.heap.size w w'' := by
  subst hm
  subst hz
  exact Sums.below h hb
theorem add_one_ne (b : UInt8) : b + 1 ≠ b := by
  intro h
  have h2 := congrArg UInt8.toNat h
  have hb := b.toNat_lt
  rw [UInt8.toNat_add] at h2
  simp at h2
  omega
theorem held_blk {w w' : World} {tb : Nat} {cs : Array Value} (h : Blk w' tb 31 cs ∧ Below w.heap.size w w') : Blk w' tb 31 cs := h.1
theorem keep_alloc {w w' : World} {tb : Nat} {cs : Array Value} (h : Blk w' tb 31 cs ∧ Below w.heap.size w w') (o : Obj) :
    Blk (w'.alloc o) tb 31 cs ∧ Below w.heap.size w (w'.alloc o) :=
  ⟨h.1.alloc o, h.2.alloc h.2.size o⟩
theorem keep_below {w w' w'' : World} {tb : Nat} {cs : Array Value} (h : Blk w' tb 31 cs ∧ Below w.heap.size w w') (hb : Below w'.heap.size w' w'') :
    Blk w'' tb 31 cs ∧ Below w.heap.size w w'' :=
  ⟨h.1.below hb h.1.lt, h.2.trans (hb.mono h.2.size)⟩
/-- what is known of the three sums of a text that is cut -/
structure Cut (s a b : ByteArray) (k : Nat) : Prop where
  feed : feedS (feedS 4294967295 a.data.toList) b.data.toList = feedS 4294967295 s.data.toList
  join : joinS (ofS a.data.toList) (ofS b.data.toList) ((s.size : Int) - k) = ofS s.data.toList
theorem cut_of (s : ByteArray) (k : Nat) (hk : k ≤ s.size) (hs : s.size ≤ 1000) : Cut s (s.extract 0 k) (s.extract k s.size) k := by
  have e : s.data.toList = (s.extract 0 k).data.toList ++ (s.extract k s.size).data.toList := by
    rw [← Array.toList_append, ← ByteArray.data_append, ByteArray.extract_append_extract]
    simp
  have hl : (s.extract k s.size).data.toList.length = s.size - k := by simp
  constructor
  · rw [← feedS_append, ← e]
  · have hn : noughts ((s.size : Int) - k) = (s.extract k s.size).data.toList.length := by
      rw [hl]; unfold noughts; omega
    rw [joinS, hn, ofS_append, ← e]
set_option maxRecDepth 100000 in
set_option maxHeartbeats 4000000 in
theorem sumParts_main (s u : ByteArray) (x : Nat) (w : World) (hx : x < 18446744073709551616) (hs : s.size ≤ maxLen) (hu : u.size ≤ maxLen) :
    Calls Try.prog 8 #[.string s, .string u, .int .u64 x] w fun e w' => e = .returned (.bool true) ∧ Below w.heap.size w w' := by
  obtain ⟨v, hv, hvs⟩ := info_tab
  obtain ⟨hz, hzi⟩ := zero_of_info hv
  have HV := Lib.hid hvs; clear hvs
  have HZI := Lib.hid hzi; clear hzi hv
  obtain ⟨k, hks, hk2, hmk⟩ : ∃ k : Nat, k ≤ s.size ∧ k ≤ 1000 ∧ min (s.size : Int) 1000 = (k : Int) := ⟨min s.size 1000, by omega, by omega, by omega⟩
  obtain ⟨m, hmu, hm2, hmm⟩ : ∃ m : Nat, m ≤ u.size ∧ m ≤ 1000 ∧ min (u.size : Int) 1000 = (m : Int) := ⟨min u.size 1000, by omega, by omega, by omega⟩
  unfold maxLen at hs hu
  go_enter Try.func8, Try.ntmps8
  go_wp2_with fail
  go_quiet (fail)
  have hsl : (s.extract 0 k).size ≤ 1000 := by rw [ByteArray.size_extract]; omega
  have hul : (u.extract 0 m).size ≤ 1000 := by rw [ByteArray.size_extract]; omega
  generalize s.extract 0 k = s' at *
  generalize u.extract 0 m = u' at *
  have hb0 : Below w.heap.size w (w.drewN nq) := below_drewN (Below.refl _ _) nq
  generalize w.drewN nq = w0 at *
  clear hmk hks hmm hmu hk2 hm2 hs hu
  obtain ⟨c, hc, hce⟩ : ∃ c : Nat, c ≤ s'.size ∧ c = x % (s'.size + 1) := ⟨x % (s'.size + 1), Nat.le_of_lt_succ (Nat.mod_lt x (Nat.succ_pos s'.size)), rfl⟩
  go_wp2_with (first | (go_at_call 17; refine (made_any _).mono ?_; rintro e w1 ⟨cs, rfl, htab, hb1⟩; have HTAB := Lib.hid htab; clear htab) | (refine wpList_store_row rfl 31 _ _ rfl w1.heap.size cs rfl rfl 31 v (Blk.new _ _ _) (by rw [HTAB.out.1]; exact HZI.out) (by rw [HV.out, HTAB.out.1]) HTAB.out.one ?_; rw [World.setRow_alloc_new]; fail_if_success rfl))
  have hwc : wrap64 ((x : Int) % ((s'.size : Int) + 1)) = (c : Int) := by
    have e : ((x : Int) % ((s'.size : Int) + 1)) = (c : Int) := by rw [hce]; simp
    rw [e]
    unfold wrap64
    omega
  rw [hwc]
  clear hwc hce hx
  have hB := Blk.new w1 31 cs
  have hb2 := (hb0.trans (hb1.mono hb0.size)).alloc (hb0.trans (hb1.mono hb0.size)).size (Obj.cells cs 31)
  clear hb0 hb1 hz
  generalize w1.alloc (Obj.cells cs 31) = w2 at *
  generalize w1.heap.size = tb at *
  have C := Lib.hid (cut_of s' c hc hsl)
  have hal : (s'.extract 0 c).size ≤ 1000 := by rw [ByteArray.size_extract]; omega
  have hbl : (s'.extract c s'.size).size ≤ 1000 := by rw [ByteArray.size_extract]; omega
  have HFA := Lib.hid (fun W h (hg : Blk W tb 31 cs) hh => feed_begin W tb h cs (s'.extract 0 c) HTAB.out (by omega) hg hh)
  have HFB := Lib.hid (fun W h (hg : Blk W tb 31 cs) hh => feed_one W tb h cs (feedS 4294967295 (s'.extract 0 c).data.toList) (s'.extract c s'.size) (feedS_lt _ _ (by omega)) HTAB.out (by omega) hg hh)
  have hEnd : ∀ W, Calls Try.prog 25 #[.int .u32 (feedS (feedS 4294967295 (s'.extract 0 c).data.toList) (s'.extract c s'.size).data.toList : Nat)] W fun e w' => e = .returned (.int .u32 (ofS s'.data.toList : Nat)) ∧ W = w' := by
    intro W
    rw [C.out.feed]
    exact end_any W _ (feedS_lt _ _ (by omega))
  have HEND := Lib.hid hEnd; clear hEnd
  have HO := Lib.hid (fun W => sumOf_any W s' (by unfold maxLen; omega))
  have HOA := Lib.hid (fun W => sumOf_any W (s'.extract 0 c) (by unfold maxLen; omega))
  have HOB := Lib.hid (fun W => sumOf_any W (s'.extract c s'.size) (by unfold maxLen; omega))
  have hJ := fun W => join_any W (ofS (s'.extract 0 c).data.toList) (ofS (s'.extract c s'.size).data.toList) ((s'.size : Int) - c) (ofS_lt _) (ofS_lt _)
  rw [C.out.join] at hJ
  have HJ := Lib.hid hJ; clear hJ C
  generalize feedS (feedS 4294967295 (s'.extract 0 c).data.toList) (s'.extract c s'.size).data.toList = y at *
  generalize feedS 4294967295 (s'.extract 0 c).data.toList = y1 at *
  generalize ofS (s'.extract 0 c).data.toList = za at *
  generalize ofS (s'.extract c s'.size).data.toList = zb at *
  generalize hz0 : ofS s'.data.toList = z at *
  obtain ⟨N, hNs, hNu, hmin⟩ : ∃ N : Nat, N ≤ s'.size ∧ N ≤ u'.size ∧ min (s'.size : Int) u'.size = (N : Int) := ⟨min s'.size u'.size, by omega, by omega, by omega⟩
  have hwr : IntKind.i64.wrap ((s'.size : Int) - c) = (s'.size : Int) - c := IntWalk.i64_in _ (by omega)
  go_cut [64] from 32 to 64 (fun b wx => b = .bool false ∧ Below w.heap.size w wx)
  case first =>
    go_region_held3 (fun w' => Blk w' tb 31 cs ∧ Below w.heap.size w w')
      (first | exact ⟨hB, Below.drew hb2⟩ | assumption | exact keep_alloc (w := w) (by assumption) _ | exact keep_below (w := w) (by assumption) hbJ | exact keep_below (w := w) (by assumption) hbO | exact keep_below (w := w) (by assumption) hbP | exact keep_below (w := w) (by assumption) hbQ)
      (first | (go_at_call 24; (with_reducible refine (begin_any _).mono ?_); rintro e w' ⟨rfl, rfl⟩) | (go_at_call 20; first | (((with_reducible refine (HFA.out _ _ ?_ ?_).mono ?_); exact held_blk (w := w) (by assumption); (first | exact Blk.drew (Blk.new _ _ _) | exact Blk.drew (blk_new1 _ _ _ _ _) | exact Blk.drew (blk_new2 _ _ _ _ _)); rintro e w' ⟨rfl, rfl⟩)) | (((with_reducible refine (HFB.out _ _ ?_ ?_).mono ?_); exact held_blk (w := w) (by assumption); (first | exact Blk.drew (Blk.new _ _ _) | exact Blk.drew (blk_new1 _ _ _ _ _) | exact Blk.drew (blk_new2 _ _ _ _ _)); rintro e w' ⟨rfl, rfl⟩))) | (go_at_call 25; (with_reducible refine (HEND.out _).mono ?_); rintro e w' ⟨rfl, rfl⟩) | (go_at_call 22; first | (((with_reducible refine (HOA.out _).mono ?_); rintro e wP ⟨rfl, hbP⟩)) | (((with_reducible refine (HOB.out _).mono ?_); rintro e wQ ⟨rfl, hbQ⟩)) | (((with_reducible refine (HO.out _).mono ?_); rintro e wO ⟨rfl, hbO⟩))) | (go_at_call 44; (with_reducible refine (HJ.out _).mono ?_); rintro e wJ ⟨rfl, hbJ⟩))
    all_goals
      have hb3 : Below w.heap.size w wO := (show Blk wO tb 31 cs ∧ Below w.heap.size w wO by assumption).2
      go_wp2_with fail
      go_meet
      exact ⟨rfl, hb3⟩
  case rest =>
    obtain ⟨rfl, hb3⟩ := hcut
    clear hwr hb2 hB HFA HFB HEND HOA HOB HJ
    generalize wc = w3 at *
    go_wp2_with fail
    go_loopw [10, 11, 12, 71] (fun m o _ i wr => ∃ k : Nat, k ≤ N ∧ i = .int .i64 k ∧ Two wr w.heap.size 5 1 m k (bytesV (xorT s' u' k)) o k (bytesV (List.replicate k 0)) ∧ Below w.heap.size w wr) (fun _ _ _ i _ => N - (intOf i).toNat)
    case atStart => exact ⟨0, Nat.zero_le _, rfl, ⟨World.ownsRow_nil _ _ _ _, World.ownsRow_nil _ _ _ _, .inl rfl⟩, hb3⟩
    case round =>
      obtain ⟨k, hk, rfl, htwo, hbr⟩ := hrel
      by_cases hlt : k < N
      · have hks : k < s'.size := by omega
        have hku : k < u'.size := by omega
        have hx := xor_walk s'[k] u'[k]
        have HXT := Lib.hid (xorT_succ s' u' k hks hku)
        generalize xorT s' u' k = l1 at *
        go_wp2_with fail
        have HT := Lib.hid htwo; clear htwo
        go_cut [10, 71] from 71 to 87 (fun m i wx => i = .int .i64 k ∧ ∃ g cap, m = .slice (some ⟨g, 0, none⟩) (k + 1) cap ∧ Two wx w.heap.size 5 1 m (k + 1) (bytesV (xorT s' u' (k + 1))) u11 k (bytesV (List.replicate k 0)) ∧ Below w.heap.size w wx)
        case first =>
          go_region_law (refine step_app rfl _ _ 69 rfl w.heap.size 5 (.int .u8 0) 1 1 Try.underlying69 info_u8 rfl (by omega) u10 k (bytesV l1) (by simp [Act.eval, Act.put]) (own_kept HT.out.a (Below.drew ((Below.refl _ _).alloc (Nat.le_refl _) _))) wr.heap.size 1 _ _ (by simp [Act.eval, Act.put]) (Blk.drew (Blk.new _ _ _)) rfl (by simp [Value.oneCell']) (by omega) (by omega) (by have := hbr.size; simp; omega) _ rfl ?_; intro g1 cap1 w4 ho1 hg1 hat1 hlt1)
          all_goals
            go_wp2_with fail
            go_meet
            have hn : w.heap.size ≤ wr.heap.size := hbr.size
            have hT2 := (HT.out.kept (Below.drew ((Below.refl _ _).alloc (Nat.le_refl _) (Obj.cells #[Value.int IntKind.u8 (s'[k].toNat ^^^ u'[k].toNat : Nat)] 5)))).left ho1 hg1 hat1
            refine ⟨rfl, g1, cap1, rfl, ?_, own_below HT.out.a ((hbr.alloc hn _).drew) hg1 (Nat.le_refl _) (by simp; omega)⟩
            rw [HXT.out, bytesV_append]
            simpa [bytesV] using hT2
        case rest =>
          obtain ⟨rfl, g1, cap1, rfl, ht, hbw⟩ := hcut
          have HT2 := Lib.hid ht; clear ht
          go_wp2_with (refine wpList_app rfl _ _ 69 rfl w.heap.size 5 (.int .u8 0) 1 1 Try.underlying69 info_u8 rfl (by omega) u11 k (bytesV (List.replicate k 0)) (by simp [Act.eval, Act.put]) (own_kept HT2.out.b ((Below.refl _ _).alloc (Nat.le_refl _) _)) wc.heap.size 1 _ _ (by simp [Act.eval, Act.put]) (Blk.new _ _ _) rfl (by simp [Value.oneCell']) (by omega) (by omega) (by have := hbw.size; simp; omega) _ rfl ?_; intro g2 cap2 w5 ho2 hg2 hat2 hlt2)
          have hn : w.heap.size ≤ wc.heap.size := hbw.size
          have hT3 := (HT2.out.kept ((Below.refl _ _).alloc (Nat.le_refl _) (Obj.cells #[Value.int IntKind.u8 0] 5))).right ho2 hg2 hat2
          go_roundw
          case rel =>
            refine ⟨k + 1, by omega, by go_num, ?_, own_below HT2.out.b (hbw.alloc hn _) hg2 (Nat.le_refl _) (by simp; omega)⟩
            rw [List.replicate_succ', bytesV_append]
            simpa [bytesV] using hT3
          case measure => simp [intOf]; omega
      · obtain rfl : k = N := by omega
        have hm3 : ofS (xorT s' u' k) = ofS (s'.extract 0 k).data.toList ^^^ ofS (u'.extract 0 k).data.toList ^^^ ofS (List.replicate k 0) := three_of s' u' k hNs hNu
        have hHM := fun W => sumOf_any W ⟨(xorT s' u' k).toArray⟩ (by rw [size_xorT s' u' k hNs hNu]; unfold maxLen; omega)
        have hHZ := fun W => sumOf_any W ⟨(List.replicate k (0 : UInt8)).toArray⟩ (by show (List.replicate k (0 : UInt8)).toArray.size ≤ maxLen; simp; unfold maxLen; omega)
        have hHS := fun W => sumOf_any W (s'.extract 0 k) (by rw [ByteArray.size_extract]; unfold maxLen; omega)
        have hHU := fun W => sumOf_any W (u'.extract 0 k) (by rw [ByteArray.size_extract]; unfold maxLen; omega)
        have hx1 := u32_xor_nat (ofS (s'.extract 0 k).data.toList) (ofS (u'.extract 0 k).data.toList) (ofS_lt _) (ofS_lt _)
        have hx2 := u32_xor_nat (ofS (s'.extract 0 k).data.toList ^^^ ofS (u'.extract 0 k).data.toList) (ofS (List.replicate k 0)) (Nat.xor_lt_two_pow (n := 32) (ofS_lt _) (ofS_lt _)) (ofS_lt _)
        rw [← hm3] at hx2
        simp only at hHM hHZ
        clear hm3
        have hS0 : Sums w u10 u11 k (xorT s' u' k) wr.drew := Sums.mk' (htwo.kept (Below.drew (Below.refl _ _))) hbr.drew
        generalize hmx : (⟨(xorT s' u' k).toArray⟩ : ByteArray) = mx at *
        generalize hzx : (⟨(List.replicate k (0 : UInt8)).toArray⟩ : ByteArray) = zx at *
        generalize ofS (s'.extract 0 k).data.toList = za at *
        generalize ofS (u'.extract 0 k).data.toList = zb at *
        generalize ofS (xorT s' u' k) = zm at *
        generalize ofS (List.replicate k 0) = zc at *
        generalize za ^^^ zb = zab at *
        have HM := Lib.hid hHM; clear hHM
        have HZ := Lib.hid hHZ; clear hHZ
        have HS := Lib.hid hHS; clear hHS
        have HU := Lib.hid hHU; clear hHU
        go_wp2_with fail
        go_cut [104] from 88 to 104 (fun b wx => b = .bool false ∧ Below w.heap.size w wx)
        case first =>
          unfold Sums at hS0
          rw [hmx, hzx] at hS0
          go_region_held3 (fun w' => (convert 69 9 u10).run Try.prog w' = .ok (.string mx) w' ∧ (convert 69 9 u11).run Try.prog w' = .ok (.string zx) w' ∧
              Two w' w.heap.size 5 1 u10 k (bytesV (xorT s' u' k)) u11 k (bytesV (List.replicate k 0)) ∧ Below w.heap.size w w')
            (first | exact hS0 | assumption | exact keepS (w := w) hmx hzx (by assumption) hbM | exact keepS (w := w) hmx hzx (by assumption) hbS | exact keepS (w := w) hmx hzx (by assumption) hbU | exact keepS (w := w) hmx hzx (by assumption) hbZ)
            (first | (go_at_call 22; first | (((with_reducible refine (HM.out _).mono ?_); rintro e wM ⟨rfl, hbM⟩)) | (((with_reducible refine (HS.out _).mono ?_); rintro e wS ⟨rfl, hbS⟩)) | (((with_reducible refine (HU.out _).mono ?_); rintro e wU ⟨rfl, hbU⟩)) | (((with_reducible refine (HZ.out _).mono ?_); rintro e wZ ⟨rfl, hbZ⟩))))
          all_goals
            have hb4 : Below w.heap.size w wZ := (keepS (w := w) hmx hzx (keepS (w := w) hmx hzx (keepS (w := w) hmx hzx (keepS (w := w) hmx hzx hS0 hbM) hbS) hbU) hbZ).2.2.2
            go_wp2_with fail
            go_meet
            exact ⟨rfl, hb4⟩
        case rest =>
          obtain ⟨rfl, hb4⟩ := hcut
          clear hS0 htwo hx1 hx2 HM HZ HS HU
          generalize wc = w5 at *
          by_cases hcs : c < s'.size
          · obtain ⟨cap, w6, hcv, hb6, hsz6, hat⟩ := run_bytes (P := Try.prog) w5 9 69 5 s' Try.underlying9 Try.underlying69 Try.underlying5
            have hcl : c < s'.data.toList.length := by simpa using hcs
            have hcell := (hat c hcl).1
            have hfz := (hat c hcl).2
            have hput := hat.put c (s'.data.toList[c] + 1) hcl
            have hback := hput.conv (P := Try.prog) 69 9 5 Try.underlying69 Try.underlying5 Try.underlying9 cap
            have hlen : (s'.data.toList.set c (s'.data.toList[c] + 1)).length = s'.size := by simp
            rw [hlen] at hback
            have hadd : (((s'.data.toList[c] + 1).toNat : Nat) : Int) = ((s'.data.toList[c].toNat : Int) + 1) % 256 := by rw [UInt8.toNat_add]; simp
            rw [hadd] at hback
            have hother : ofS (s'.data.toList.set c (s'.data.toList[c] + 1)) ≠ z := by
              rw [← hz0]
              exact ofS_other _ _ _ hcl (add_one_ne _)
            have hHX := fun W => sumOf_any W ⟨(s'.data.toList.set c (s'.data.toList[c] + 1)).toArray⟩ (by show (s'.data.toList.set c (s'.data.toList[c] + 1)).toArray.size ≤ maxLen; rw [List.size_toArray, hlen]; unfold maxLen; omega)
            simp only at hHX
            generalize hmq : (⟨(s'.data.toList.set c (s'.data.toList[c] + 1)).toArray⟩ : ByteArray) = xq at *
            generalize ofS (s'.data.toList.set c (s'.data.toList[c] + 1)) = zq at *
            have htest : ((zq : Int) == (z : Int)) = false := by rw [beq_eq_false_iff_ne]; omega
            have HX := Lib.hid hHX; clear hHX
            clear hput hat hadd hmq hother hlen
            generalize s'.data.toList[c] = bc at *
            go_wp2_with (first | (go_at_call 22; first | (((with_reducible refine (HX.out _).mono ?_); rintro e w7 ⟨rfl, hb7⟩)) | (((with_reducible refine (HO.out _).mono ?_); rintro e w8 ⟨rfl, hb8⟩))) | (go_at_call 26; refine (sum_lives _).mono ?_; rintro e wL ⟨rfl, hbL⟩))
            go_ret
            have h6 : Below w.heap.size w (w6.setCell ⟨w5.heap.size, c, none⟩ (.int .u8 (((bc.toNat : Int) + 1) % 256))) := (hb4.trans (hb6.mono hb4.size)).setCell hb4.size _
            have h7 := h6.trans (hb7.mono h6.size)
            have h8 := h7.trans (hb8.mono h7.size)
            exact ⟨rfl, h8.trans (hbL.mono h8.size)⟩
          · go_wp2_with (go_at_call 26; refine (sum_lives _).mono ?_; rintro e wL ⟨rfl, hbL⟩)
            go_ret
            exact ⟨rfl, hb4.trans (hbL.mono hb4.size)⟩
theorem sumParts_walk : Walks 8 Try.f8 := by
  intro H enc W base args ds ps hval hA hlt hsz
  rw [Try.params8] at hA hval
  obtain ⟨v0, v1, v2, d0, d1, d2, p0, p1, p2, rfl, rfl, rfl, h0, h1, h2⟩ := trodAll_three hA
  obtain ⟨s, rfl, rfl, rfl, hs⟩ := open_string Try.underlying9 (hval 0 9 v0 rfl rfl) h0
  obtain ⟨u, rfl, rfl, rfl, hu⟩ := open_string Try.underlying9 (hval 1 9 v1 rfl rfl) h1
  obtain ⟨x, rfl, rfl, rfl, wx⟩ := open_int Try.underlying58 (hval 2 58 v2 rfl rfl) h2
  obtain ⟨x0, x1⟩ := bounds_u64 wx
  obtain ⟨x, rfl⟩ := Int.eq_ofNat_of_zero_le x0
  exact sumParts_main s u x W (by omega) hs hu
end Go.Proofs.Ythdmajhhioiaoaa
