/- Several texts, joined for the limit of sixty files; each one opens with its own comment. -/
import Derived.Test.YtnpehjgnplaabaaGreatDoorJoin41
import Derived.Test.YtnpehjgnplaabaaGreatDoorJoin7
import Derived.Test.YtnpehjgnplaabaaGreatDoorJoin5
import Derived.BigRegion
/- Several texts, joined for the limit of sixty files; each one opens with its own comment. -/
/- archive.order, rises, Right: which Bases may be, exactly. -/
set_option linter.unusedVariables false
set_option linter.unusedSimpArgs false
namespace Sw
open Go
/-- may the i-th of some marks stand there? -/
def okI (L : List MkE) (i : Nat) : Bool :=
  match L[i]? with
  | none => true
  | some m => rightL m.1.data.toList && (fineP m.2 && (!decide (m.2.kind = 0) && (match i with
    | 0 => true
    | j + 1 => match L[j]? with
      | none => true
      | some m' => decide (ordS m'.1 m.1 = -1))))
def risesM (L : List MkE) : Bool := (List.range L.length).all (okI L)
/-- may two rows of marks be a Base? -/
def rightM (l1 l2 : List MkE) : Bool := risesM l1 && (risesM l2 && !(l2.any fun m => (findM l1 m.1).isSome))
theorem risesM_no {L : List MkE} {i : Nat} (hi : i < L.length) (h : okI L i = false) : risesM L = false := by
  unfold risesM
  rw [List.all_eq_false]
  exact ⟨i, List.mem_range.2 hi, by rw [h]; decide⟩
theorem risesM_yes {L : List MkE} (h : ∀ i, i < L.length → okI L i = true) : risesM L = true := by
  unfold risesM
  rw [List.all_eq_true]
  exact fun i hi => h i (List.mem_range.1 hi)
theorem okI_zero {L : List MkE} {m : MkE} (h : L[0]? = some m) : okI L 0 = (rightL m.1.data.toList && (fineP m.2 && (!decide (m.2.kind = 0) && true))) := by
  unfold okI
  rw [h]
theorem okI_succ {L : List MkE} {m m' : MkE} {j : Nat} (h : L[j + 1]? = some m) (h' : L[j]? = some m') : okI L (j + 1) = (rightL m.1.data.toList && (fineP m.2 && (!decide (m.2.kind = 0) && decide (ordS m'.1 m.1 = -1)))) := by
  unfold okI
  rw [h]
  simp only
  rw [h']
end Sw
namespace Go.Proofs.YtnpehjgnplaabaaGreatDoor
open Go Go.RowKit
open Sw
/-- a mark that came in -/
def MkInA (m : MkE) : Prop := m.1.size ≤ 90000 ∧ 0 ≤ m.2.time ∧ m.2.time < 4294967296
set_option maxRecDepth 100000 in
theorem archOrd_any (w : World) (x y : MkE) (hx : x.1.size ≤ 90000) (hy : y.1.size ≤ 90000) :
    Calls Tryz.prog 89 #[.agg (eCM x).toArray, .agg (eCM y).toArray] w fun e w' => e = .returned (.int .i64 (ordS x.1 y.1)) ∧ Below w.heap.size w w' := by
  obtain ⟨p, px⟩ := x
  obtain ⟨q, qx⟩ := y
  simp only at hx hy
  have hb0 : Below w.heap.size w ((w.alloc (.cells (eCM (p, px)).toArray 63)).alloc (.cells (eCM (q, qx)).toArray 63)) := ((Below.refl _ _).alloc (Nat.le_refl _) _).alloc (by simp) _
  have HO := Lib.hid (order_any ((w.alloc (.cells (eCM (p, px)).toArray 63)).alloc (.cells (eCM (q, qx)).toArray 63)) p q (by omega) (by omega))
  have HB := Lib.hid hb0; clear hb0
  simp only [eCM] at *
  generalize ordS p q = r at *
  go_enter Tryz.func89, Tryz.ntmps89
  go_wp2_with fail
  refine HO.out.mono ?_
  rintro e w2 ⟨rfl, hb2⟩
  go_wp2_with fail
  go_ret
  exact ⟨rfl, HB.out.trans (hb2.mono HB.out.size)⟩
set_option maxRecDepth 100000 in
set_option maxHeartbeats 8000000 in
theorem archRises_any (w : World) (u : Value) (L : List MkE) (h : SlV w 6 eCM u L) (hn : L.length ≤ 1000) (hin : ∀ m ∈ L, MkInA m) :
    Calls Tryz.prog 53 #[u] w fun e w' => e = .returned (.bool (risesM L)) ∧ Below w.heap.size w w' := by
  have HS := Lib.hid (And.intro h hin); clear hin
  obtain ⟨A, c, rfl, _, _, _⟩ := h
  obtain ⟨n, hn2⟩ : ∃ n, L.length = n := ⟨_, rfl⟩
  rw [hn2] at HS hn ⊢
  have HL := Lib.hid hn2; clear hn2
  have HNO := Lib.hid (fun i (hi : i < L.length) => risesM_no hi)
  have HYES := Lib.hid (fun (hy : ∀ i, i < L.length → okI L i = true) => risesM_yes hy)
  generalize risesM L = RES at *
  go_enter Tryz.func53, Tryz.ntmps53
  go_wp2_with fail
  go_loopw [7] (fun iv wr => ∃ i : Nat, i ≤ n ∧ iv = .int .i64 i ∧ (∀ j, j < i → okI L j = true) ∧ Below w.heap.size w wr) (fun iv _ => n - (intOf iv).toNat)
  case atStart => exact ⟨0, Nat.zero_le _, rfl, fun j hj => by omega, Below.refl _ _⟩
  case round =>
    obtain ⟨i, hi, rfl, hok, hb⟩ := hrel
    have HOK := Lib.hid hok; clear hok
    have hslr := HS.out.1.below hb (Nat.le_refl _)
    by_cases hlt : i < n
    · have hiL : i < L.length := by have := HL.out; omega
      obtain ⟨A', c', hA, _, _, hso⟩ := hslr
      obtain ⟨rfl, rfl⟩ : A = A' ∧ c = c' := by injection hA with e1 e2 e3; exact ⟨e1, e3⟩
      clear hA
      obtain ⟨b, off, rfl, hbb, hcs⟩ := hso (by omega)
      have c0 := hcs i hiL 0 (by omega)
      have c1 := hcs i hiL 1 (by omega)
      have c2 := hcs i hiL 2 (by omega)
      have c3' := hcs i hiL 3 (by omega)
      have c4 := hcs i hiL 4 (by omega)
      have c5 := hcs i hiL 5 (by omega)
      simp only [eCM, List.getElem?_cons_succ, List.getElem?_cons_zero, Nat.add_zero] at c0 c1 c2 c3' c4 c5
      have HCS := Lib.hid (And.intro hbb hcs)
      clear hcs hso hbb
      have hi1 : (i : Int) < n := by omega
      have hmi := HS.out.2 _ (List.getElem_mem hiL)
      have hLi := List.getElem?_eq_getElem hiL
      obtain ⟨⟨q, ⟨kd, md, tm, sz, sm⟩⟩, hx⟩ : ∃ x, L[i] = x := ⟨_, rfl⟩
      simp only [hx] at c0 c1 c2 c3' c4 c5 hmi hLi
      clear hx
      have HLI := Lib.hid hLi; clear hLi
      obtain ⟨W0, hW0⟩ : ∃ W0, wr.alloc (.cells #[.string q, .int .i64 kd, .int .i64 md, .int .u32 tm, .int .i64 sz, .int .u32 sm] 63) = W0 := ⟨_, rfl⟩
      have hba : Below wr.heap.size wr W0 := by rw [← hW0]; exact (Below.refl _ _).alloc (Nat.le_refl _) _
      have hB0 : Blk W0 wr.heap.size 63 #[.string q, .int .i64 kd, .int .i64 md, .int .u32 tm, .int .i64 sz, .int .u32 sm] := by rw [← hW0]; exact Blk.new _ _ _
      obtain ⟨G, hG⟩ : ∃ G, wr.heap.size = G := ⟨_, rfl⟩
      have H0 := Lib.hid (And.intro hW0 (And.intro hba (And.intro hb (And.intro hB0 hG))))
      rw [hG] at hB0
      have hGl := hB0.lt
      obtain ⟨hq0, ht0, ht1⟩ := hmi
      simp only at hq0 ht0 ht1
      have HRR := Lib.hid (fun m : Held (Aft W0) => right_any (HeldW m) q (by omega))
      have HFI := Lib.hid (fun m : Held (Aft W0) => nodeFine_any (HeldW m) ⟨kd, md, tm, sz, sm⟩ ht0 ht1)
      have HQ := Lib.hid hq0
      unfold Pr.c at HFI
      obtain ⟨R, hR⟩ : ∃ R, rightL q.data.toList = R := ⟨_, rfl⟩
      obtain ⟨F, hF⟩ : ∃ F, fineP ⟨kd, md, tm, sz, sm⟩ = F := ⟨_, rfl⟩
      rw [hR] at HRR
      rw [hF] at HFI
      have HRF := Lib.hid (And.intro hR hF)
      have k0 : ∀ m : Held (Aft W0), (HeldW m).cell? ⟨G, 0, none⟩ = some (.string q) := fun m => (Aft.cell m hGl).trans (by have := hB0.cell 0; simpa using this)
      have k1 : ∀ m : Held (Aft W0), (HeldW m).cell? ⟨G, 1, none⟩ = some (.int .i64 kd) := fun m => (Aft.cell m hGl).trans (by have := hB0.cell 1; simpa using this)
      have k2 : ∀ m : Held (Aft W0), (HeldW m).cell? ⟨G, 2, none⟩ = some (.int .i64 md) := fun m => (Aft.cell m hGl).trans (by have := hB0.cell 2; simpa using this)
      have k3 : ∀ m : Held (Aft W0), (HeldW m).cell? ⟨G, 3, none⟩ = some (.int .u32 tm) := fun m => (Aft.cell m hGl).trans (by have := hB0.cell 3; simpa using this)
      have k4 : ∀ m : Held (Aft W0), (HeldW m).cell? ⟨G, 4, none⟩ = some (.int .i64 sz) := fun m => (Aft.cell m hGl).trans (by have := hB0.cell 4; simpa using this)
      have k5 : ∀ m : Held (Aft W0), (HeldW m).cell? ⟨G, 5, none⟩ = some (.int .u32 sm) := fun m => (Aft.cell m hGl).trans (by have := hB0.cell 5; simpa using this)
      clear hba hb hB0 hq0 ht0 ht1 hR hF hGl hW0
      go_upto_region 4 with fail
      rw [H0.out.1]
      clear c0 c1 c2 c3' c4 c5
      haveI := Aft.some W0
      cases R with
      | false =>
        refine wp_region_class (Aft W0) (by kernel_rfl) (by kernel_rfl) (Aft.start W0) ?_
        repeat (go_big_quiet_step (first | with_reducible exact held_below Aft.keep (HRR.out _)))
        refine wpQuiet_nil ?_
        rintro _ ⟨nn, rfl⟩
        have HW := Lib.hid (H0.out.2.2.1.trans ((H0.out.2.1.trans ((HeldW_spec nn : Below W0.heap.size W0 (HeldW nn)).mono H0.out.2.1.size)).mono H0.out.2.2.1.size))
        have hoki : okI L i = false := by
          cases i with
          | zero => rw [okI_zero HLI.out]; simp [HRF.out.1]
          | succ j =>
            have hjL : j < L.length := by omega
            rw [okI_succ HLI.out (List.getElem?_eq_getElem hjL)]; simp [HRF.out.1]
        have hres := HNO.out i (by have := HL.out; omega) hoki
        have HRES := Lib.hid hres; clear hres hoki k0 k1 k2 k3 k4 k5
        go_wp2_with fail
        go_ret
        exact ⟨by rw [HRES.out]; rfl, HW.out⟩
      | true =>
        cases F with
        | false =>
          refine wp_region_class (Aft W0) (by kernel_rfl) (by kernel_rfl) (Aft.start W0) ?_
          repeat (go_big_quiet_step (first | with_reducible exact held_below Aft.keep (HRR.out _) | with_reducible exact held_below Aft.keep (HFI.out _)))
          refine wpQuiet_nil ?_
          rintro _ ⟨nn, rfl⟩
          have HW := Lib.hid (H0.out.2.2.1.trans ((H0.out.2.1.trans ((HeldW_spec nn : Below W0.heap.size W0 (HeldW nn)).mono H0.out.2.1.size)).mono H0.out.2.2.1.size))
          have hoki : okI L i = false := by
            cases i with
            | zero => rw [okI_zero HLI.out]; simp [HRF.out.1, HRF.out.2]
            | succ j =>
              have hjL : j < L.length := by omega
              rw [okI_succ HLI.out (List.getElem?_eq_getElem hjL)]; simp [HRF.out.1, HRF.out.2]
          have hres := HNO.out i (by have := HL.out; omega) hoki
          have HRES := Lib.hid hres; clear hres hoki k0 k1 k2 k3 k4 k5
          go_wp2_with fail
          go_ret
          exact ⟨by rw [HRES.out]; rfl, HW.out⟩
        | true =>
          by_cases hk : kd = 0
          · subst hk
            refine wp_region_class (Aft W0) (by kernel_rfl) (by kernel_rfl) (Aft.start W0) ?_
            repeat (go_big_quiet_step (first | with_reducible exact held_below Aft.keep (HRR.out _) | with_reducible exact held_below Aft.keep (HFI.out _)))
            refine wpQuiet_nil ?_
            rintro _ ⟨nn, rfl⟩
            have HW := Lib.hid (H0.out.2.2.1.trans ((H0.out.2.1.trans ((HeldW_spec nn : Below W0.heap.size W0 (HeldW nn)).mono H0.out.2.1.size)).mono H0.out.2.2.1.size))
            have hoki : okI L i = false := by
              cases i with
              | zero => rw [okI_zero HLI.out]; simp [HRF.out.1, HRF.out.2]
              | succ j =>
                have hjL : j < L.length := by omega
                rw [okI_succ HLI.out (List.getElem?_eq_getElem hjL)]; simp [HRF.out.1, HRF.out.2]
            have hres := HNO.out i (by have := HL.out; omega) hoki
            have HRES := Lib.hid hres; clear hres hoki k0 k1 k2 k3 k4 k5
            go_wp2_with fail
            go_ret
            exact ⟨by rw [HRES.out]; rfl, HW.out⟩
          · have ek : (kd == 0) = false := by rw [beq_eq_false_iff_ne]; exact hk
            have HK := Lib.hid hk
            clear hk
            cases i with
            | zero =>
              refine wp_region_class (Aft W0) (by kernel_rfl) (by kernel_rfl) (Aft.start W0) ?_
              repeat (go_big_quiet_step (first | with_reducible exact held_below Aft.keep (HRR.out _) | with_reducible exact held_below Aft.keep (HFI.out _)))
              refine wpQuiet_nil ?_
              rintro _ ⟨nn, rfl⟩
              have HW := Lib.hid (H0.out.2.2.1.trans ((H0.out.2.1.trans ((HeldW_spec nn : Below W0.heap.size W0 (HeldW nn)).mono H0.out.2.1.size)).mono H0.out.2.2.1.size))
              have hoki : okI L 0 = true := by
                rw [okI_zero HLI.out, HRF.out.1, HRF.out.2, decide_eq_false HK.out]; rfl
              have HOK2 := Lib.hid (show ∀ t, t < 0 + 1 → okI L t = true from fun t ht => by
                by_cases e : t = 0
                · rw [e]; exact hoki
                · exact HOK.out t (by omega))
              clear hoki k0 k1 k2 k3 k4 k5
              go_wp2_with fail
              go_roundw
              case rel => exact ⟨0 + 1, by omega, by go_num, HOK2.out, HW.out⟩
              case measure => simp [intOf]; omega
            | succ j =>
              have hjL : j < L.length := by omega
              have d0 := HCS.out.2 j hjL 0 (by omega)
              have d1 := HCS.out.2 j hjL 1 (by omega)
              have d2 := HCS.out.2 j hjL 2 (by omega)
              have d3 := HCS.out.2 j hjL 3 (by omega)
              have d4 := HCS.out.2 j hjL 4 (by omega)
              have d5 := HCS.out.2 j hjL 5 (by omega)
              have hmj := (HS.out.2 _ (List.getElem_mem hjL)).1
              have hLj := List.getElem?_eq_getElem hjL
              obtain ⟨⟨q', ⟨kd', md', tm', sz', sm'⟩⟩, hx⟩ : ∃ x, L[j] = x := ⟨_, rfl⟩
              simp only [hx] at d0 d1 d2 d3 d4 d5 hmj hLj
              simp only [eCM, List.getElem?_cons_succ, List.getElem?_cons_zero, Nat.add_zero] at d0 d1 d2 d3 d4 d5
              clear hx
              have HLJ := Lib.hid hLj; clear hLj
              have hbl : b < W0.heap.size := by have := HCS.out.1; have := H0.out.2.1.size; omega
              have j0 : ∀ m : Held (Aft W0), (HeldW m).cell? ⟨b, off + j * 6, none⟩ = some (.string q') := fun m => (Aft.cell m hbl).trans ((H0.out.2.1.cell (by show b < wr.heap.size; exact HCS.out.1)).trans d0)
              have j1 : ∀ m : Held (Aft W0), (HeldW m).cell? ⟨b, off + j * 6 + 1, none⟩ = some (.int .i64 kd') := fun m => (Aft.cell m hbl).trans ((H0.out.2.1.cell (by show b < wr.heap.size; exact HCS.out.1)).trans d1)
              have j2 : ∀ m : Held (Aft W0), (HeldW m).cell? ⟨b, off + j * 6 + 2, none⟩ = some (.int .i64 md') := fun m => (Aft.cell m hbl).trans ((H0.out.2.1.cell (by show b < wr.heap.size; exact HCS.out.1)).trans d2)
              have j3 : ∀ m : Held (Aft W0), (HeldW m).cell? ⟨b, off + j * 6 + 3, none⟩ = some (.int .u32 tm') := fun m => (Aft.cell m hbl).trans ((H0.out.2.1.cell (by show b < wr.heap.size; exact HCS.out.1)).trans d3)
              have j4 : ∀ m : Held (Aft W0), (HeldW m).cell? ⟨b, off + j * 6 + 4, none⟩ = some (.int .i64 sz') := fun m => (Aft.cell m hbl).trans ((H0.out.2.1.cell (by show b < wr.heap.size; exact HCS.out.1)).trans d4)
              have j5 : ∀ m : Held (Aft W0), (HeldW m).cell? ⟨b, off + j * 6 + 5, none⟩ = some (.int .u32 sm') := fun m => (Aft.cell m hbl).trans ((H0.out.2.1.cell (by show b < wr.heap.size; exact HCS.out.1)).trans d5)
              have HOR := Lib.hid (fun m : Held (Aft W0) => archOrd_any (HeldW m) (q', ⟨kd', md', tm', sz', sm'⟩) (q, ⟨kd, md, tm, sz, sm⟩) hmj HQ.out)
              simp only [eCM] at HOR
              have hwj : IntKind.i64.wrap ((j : Int) + 1 - 1) = j := by rw [show (j : Int) + 1 - 1 = j by omega]; exact IntWalk.i64_in _ (by omega)
              have hj0 : (j : Int) < n := by omega
              have hnn := ordS_three q' q
              clear d0 d1 d2 d3 d4 d5 hbl hmj
              by_cases ho : ordS q' q = -1
              · have HO := Lib.hid ho
                rw [ho] at HOR
                clear ho hnn
                refine wp_region_class (Aft W0) (by kernel_rfl) (by kernel_rfl) (Aft.start W0) ?_
                repeat (go_big_quiet_step (first | with_reducible exact held_below Aft.keep (HRR.out _) | with_reducible exact held_below Aft.keep (HFI.out _) | with_reducible exact held_below Aft.keep (HOR.out _)))
                refine wpQuiet_nil ?_
                rintro _ ⟨nn, rfl⟩
                have HW := Lib.hid (H0.out.2.2.1.trans ((H0.out.2.1.trans ((HeldW_spec nn : Below W0.heap.size W0 (HeldW nn)).mono H0.out.2.1.size)).mono H0.out.2.2.1.size))
                have hoki : okI L (j + 1) = true := by
                  rw [okI_succ HLI.out HLJ.out, HRF.out.1, HRF.out.2, decide_eq_false HK.out, decide_eq_true HO.out]; rfl
                have HOK2 := Lib.hid (show ∀ t, t < (j + 1) + 1 → okI L t = true from fun t ht => by
                  by_cases e : t = (j + 1)
                  · rw [e]; exact hoki
                  · exact HOK.out t (by omega))
                clear hoki k0 k1 k2 k3 k4 k5 j0 j1 j2 j3 j4 j5
                go_wp2_with fail
                go_roundw
                case rel => exact ⟨(j + 1) + 1, by omega, by go_num, HOK2.out, HW.out⟩
                case measure => simp [intOf]; omega
              · have HO := Lib.hid ho
                obtain ⟨r, hr⟩ : ∃ r, ordS q' q = r := ⟨_, rfl⟩
                have hr0 : 0 ≤ r := by rw [← hr]; omega
                rw [hr] at HOR
                clear ho hnn hr
                refine wp_region_class (Aft W0) (by kernel_rfl) (by kernel_rfl) (Aft.start W0) ?_
                repeat (go_big_quiet_step (first | with_reducible exact held_below Aft.keep (HRR.out _) | with_reducible exact held_below Aft.keep (HFI.out _) | with_reducible exact held_below Aft.keep (HOR.out _)))
                refine wpQuiet_nil ?_
                rintro _ ⟨nn, rfl⟩
                have HW := Lib.hid (H0.out.2.2.1.trans ((H0.out.2.1.trans ((HeldW_spec nn : Below W0.heap.size W0 (HeldW nn)).mono H0.out.2.1.size)).mono H0.out.2.2.1.size))
                have hoki : okI L (j + 1) = false := by
                  rw [okI_succ HLI.out HLJ.out, HRF.out.1, HRF.out.2, decide_eq_false HK.out, decide_eq_false HO.out]; rfl
                have hres := HNO.out (j + 1) (by have := HL.out; omega) hoki
                have HRES := Lib.hid hres; clear hres hoki k0 k1 k2 k3 k4 k5 j0 j1 j2 j3 j4 j5
                go_wp2_with fail
                go_ret
                exact ⟨by rw [HRES.out]; rfl, HW.out⟩
    · obtain rfl : i = n := by omega
      have HB := Lib.hid hb; clear hb hslr
      have hres := HYES.out (fun j hj => HOK.out j (by have := HL.out; omega))
      have HRES := Lib.hid hres; clear hres
      go_wp2_with fail
      go_ret
      exact ⟨by rw [HRES.out]; rfl, HB.out⟩
set_option maxRecDepth 100000 in
set_option maxHeartbeats 4000000 in
theorem archRight_any (w : World) (u1 u2 : Value) (l1 l2 : List MkE) (h1 : SlV w 6 eCM u1 l1) (h2 : SlV w 6 eCM u2 l2) (hn1 : l1.length ≤ 1000) (hn2 : l2.length ≤ 1000) (hin1 : ∀ m ∈ l1, MkInA m) (hin2 : ∀ m ∈ l2, MkInA m) :
    Calls Tryz.prog 25 #[.agg #[u1, u2]] w fun e w' => e = .returned (.bool (rightM l1 l2)) ∧ Below w.heap.size w w' := by
  obtain ⟨W, hW⟩ : ∃ W, w.alloc (.cells #[u1, u2] 24) = W := ⟨_, rfl⟩
  have hb0 : Below w.heap.size w W := by rw [← hW]; exact (Below.refl _ w).alloc (Nat.le_refl _) _
  have hB0 : Blk W w.heap.size 24 #[u1, u2] := by rw [← hW]; exact Blk.new w _ _
  have HR1 := Lib.hid (archRises_any W u1 l1 (h1.below hb0 (Nat.le_refl _)) hn1 hin1)
  have HR2 := Lib.hid (fun W' (hb : Below w.heap.size w W') => archRises_any W' u2 l2 (h2.below hb (Nat.le_refl _)) hn2 hin2)
  have HC := Lib.hid (fun W' (hb : Below w.heap.size w W') (hB : Blk W' w.heap.size 24 #[u1, u2]) => conR_any (fun m => (findM l1 m.1).isSome) (fun V => Blk V w.heap.size 24 #[u1, u2] ∧ Below w.heap.size w V) (fun V V' h hg => ⟨h.1.grown hg (by simp), h.2.grown hg h.2.size (fun k hk => by cases hk)⟩) W' u2 w.heap.size l2 (h2.below hb (Nat.le_refl _)) (by omega) ⟨hB, hb⟩ (fun V x hx hV => by
    obtain ⟨q, ⟨kd, md, tm, sz, sm⟩⟩ := x
    have hba := (Below.refl V.heap.size V).alloc (Nat.le_refl _) (.cells #[.string q, .int .i64 kd, .int .i64 md, .int .u32 tm, .int .i64 sz, .int .u32 sm] 63)
    have hH := archHas_any (V.alloc (.cells #[.string q, .int .i64 kd, .int .i64 md, .int .u32 tm, .int .i64 sz, .int .u32 sm] 63)) u1 l1 q (h1.below (hV.2.trans (hba.mono hV.2.size)) (Nat.le_refl _)) (by omega)
    have HH := Lib.hid hH
    have HA := Lib.hid hba
    have x0 := hV.1.cell 0
    have x1 := hV.1.cell 1
    have hlt := hV.1.lt
    simp only [List.getElem?_toArray, List.getElem?_cons_succ, List.getElem?_cons_zero] at x0 x1
    simp only [eCM]
    obtain ⟨A1, c1, rfl, _, _, _⟩ := h1
    obtain ⟨A2, c2, rfl, _, _, _⟩ := h2
    generalize (findM l1 q).isSome = R at *
    generalize l1.length = n1 at *
    generalize l2.length = n2 at *
    clear hH hba
    go_enter Tryz.func51, Tryz.ntmps51
    go_wp2_with fail
    refine HH.out.mono ?_
    rintro e V2 ⟨rfl, hb2⟩
    have H2 := Lib.hid (HA.out.trans (hb2.mono HA.out.size)); clear hb2
    go_wp2_with fail
    go_ret
    exact ⟨rfl, H2.out⟩))
  have x0 := hB0.cell 0
  have x1 := hB0.cell 1
  simp only [List.getElem?_toArray, List.getElem?_cons_succ, List.getElem?_cons_zero] at x0 x1
  have HW := Lib.hid (And.intro hW (And.intro hb0 hB0)); clear hW hb0 hB0
  rw [show rightM l1 l2 = (risesM l1 && (risesM l2 && !(l2.any fun m => (findM l1 m.1).isSome))) from rfl]
  obtain ⟨A1, c1, rfl, _, _, _⟩ := h1
  obtain ⟨A2, c2, rfl, _, _, _⟩ := h2
  generalize risesM l1 = R1 at *
  generalize risesM l2 = R2 at *
  generalize (l2.any fun m => (findM l1 m.1).isSome) = R3 at *
  generalize l1.length = n1 at *
  generalize l2.length = n2 at *
  go_enter Tryz.func25, Tryz.ntmps25
  go_upto_region 1 with fail
  rw [HW.out.1]
  go_wp2_with fail
  refine HR1.out.mono ?_
  rintro e w1 ⟨rfl, hb1⟩
  have hB1 := HW.out.2.2.below hb1 HW.out.2.2.lt
  have H1 := Lib.hid (And.intro (HW.out.2.1.trans (hb1.mono HW.out.2.1.size)) hB1)
  have y1 := hB1.cell 1
  simp only [List.getElem?_toArray, List.getElem?_cons_succ, List.getElem?_cons_zero] at y1
  clear hb1 hB1 x0 x1 HR1
  cases R1 with
  | false =>
    go_wp2_with fail
    go_ret
    exact ⟨rfl, H1.out.1⟩
  | true =>
    go_wp2_with fail
    refine (HR2.out w1 H1.out.1).mono ?_
    rintro e w2 ⟨rfl, hb2⟩
    have hB2 := H1.out.2.below hb2 H1.out.2.lt
    have H2 := Lib.hid (And.intro (H1.out.1.trans (hb2.mono H1.out.1.size)) hB2)
    have z1 := hB2.cell 1
    simp only [List.getElem?_toArray, List.getElem?_cons_succ, List.getElem?_cons_zero] at z1
    clear hb2 hB2 y1 HR2
    cases R2 with
    | false =>
      go_wp2_with fail
      go_ret
      exact ⟨rfl, H2.out.1⟩
    | true =>
      go_wp2_with fail
      refine (HC.out w2 H2.out.1 H2.out.2).mono ?_
      rintro e w3 ⟨rfl, hb3⟩
      have H3 := Lib.hid (H2.out.1.trans (hb3.mono H2.out.1.size))
      clear hb3 z1 HC
      go_wp2_with fail
      go_ret
      exact ⟨rfl, H3.out⟩
end Go.Proofs.YtnpehjgnplaabaaGreatDoor
