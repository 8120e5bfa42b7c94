/- Several texts, joined for the limit of sixty files; each one opens with its own comment. -/
import Derived.Test.YtmpgmgjokliceaaGreatDoorJoin23
import Derived.Test.YtmpgmgjokliceaaGreatDoorJoin28
import Derived.Test.YtmpgmgjokliceaaGreatDoorJoin32
import Derived.Test.YtmpgmgjokliceaaGreatDoorJoin40
import Derived.Test.YtmpgmgjokliceaaGreatDoorJoin10
import Derived.Test.YtmpgmgjokliceaaGreatDoorJoin21
import Derived.Test.YtmpgmgjokliceaaGreatDoorJoin22
import Derived.Test.YtmpgmgjokliceaaGreatDoorJoin34
/- What the steps of a plan do to a directory, plainly: what lies under a path that is put as a whole. -/
set_option linter.unusedVariables false
set_option linter.unusedSimpArgs false
namespace Go.Proofs.YtmpgmgjokliceaaGreatDoor
open Go Go.RowKit
open Sw
/-- one step, done on a directory -/
def doS (s : DS) (t : StepP) : Int × DS :=
  if t.graft = true then stepD s (graftW s.room s.xs t.path t.items).1 (graftW s.room s.xs t.path t.items).2
  else if t.node.kind = 0 then stepD s (whyDrop s.xs t.path) (dropT s.xs t.path)
  else stepD s (putW s.room s.xs t.path t.node) (putT s.xs t.path t.node)
/-- steps, until one fails -/
def doN : DS → List StepP → DS
  | s, [] => s
  | s, t :: r => if (doS s t).1 = 0 then doN (doS s t).2 r else (doS s t).2
theorem away_inside (g p : ByteArray) (n : Nd) : awayT g (p, n) = !insideN [g] p := by
  rw [awayT_eq]
  unfold insideN
  simp
theorem undT_up {g : ByteArray} {xs : List NE} (h : Up ordS xs) : Up ordS (undT g xs) := h.filter _
theorem undT_iff (g : ByteArray) (xs : List NE) (e : NE) : e ∈ undT g xs ↔ e ∈ xs ∧ awayT g e = false := by
  unfold undT
  rw [List.mem_filter]
  simp
theorem undT_put {g p : ByteArray} {n : Nd} {xs : List NE} (hu : Up ordS xs) (h : insideN [g] p = false) : undT g (putN ordS p n xs) = undT g xs := by
  refine up_ext ordS_ord _ _ (undT_up (put_up ordS_ord p n xs hu)) (undT_up hu) (fun e => ?_)
  rw [undT_iff, undT_iff, put_iff hu]
  have ha : ∀ m, awayT g (p, m) = true := fun m => by rw [away_inside, h]; rfl
  constructor
  · rintro ⟨rfl | ⟨h1, h2⟩, h3⟩
    · rw [ha] at h3; cases h3
    · exact ⟨h1, h3⟩
  · rintro ⟨h1, h3⟩
    refine ⟨.inr ⟨h1, fun e' => ?_⟩, h3⟩
    obtain ⟨q, m⟩ := e
    simp only at e'
    subst e'
    rw [ha] at h3; cases h3
theorem undT_drop {g p : ByteArray} {xs : List NE} (hu : Up ordS xs) (h : insideN [g] p = false) : undT g (dropN ordS p xs) = undT g xs := by
  refine up_ext ordS_ord _ _ (undT_up (drop_up ordS_ord p xs hu)) (undT_up hu) (fun e => ?_)
  rw [undT_iff, undT_iff, dropN_mem hu]
  have ha : ∀ m, awayT g (p, m) = true := fun m => by rw [away_inside, h]; rfl
  constructor
  · rintro ⟨⟨h1, _⟩, h3⟩
    exact ⟨h1, h3⟩
  · rintro ⟨h1, h3⟩
    refine ⟨⟨h1, fun e' => ?_⟩, h3⟩
    obtain ⟨q, m⟩ := e
    simp only at e'
    subst e'
    rw [ha] at h3; cases h3
theorem puts_keep : ∀ (l : List NE) {Y : List NE}, TI Y → (putsT Y l).1 = 0 → ∀ e ∈ Y, (∀ x ∈ l, ¬ x.1 = e.1) → e ∈ (putsT Y l).2
  | [], _, _, _, _, he, _ => he
  | x :: r, Y, hY, h0, e, he, hne => by
    unfold putsT at h0 ⊢
    by_cases hm : mayT Y x.1 x.2 = 0
    · rw [if_pos hm] at h0 ⊢
      refine puts_keep r (hY.putT x.1 x.2) h0 e ?_ (fun z hz => hne z (List.mem_cons_of_mem _ hz))
      unfold putT
      rw [if_pos hm, put_iff hY.up]
      exact .inr ⟨he, fun e' => hne x (List.mem_cons_self ..) e'.symm⟩
    · rw [if_neg hm] at h0
      exact absurd h0 hm
theorem puts_mem : ∀ (l : List NE) {Y : List NE}, TI Y → (putsT Y l).1 = 0 → ∀ e ∈ (putsT Y l).2, e ∈ l ∨ e ∈ Y
  | [], _, _, _, _, he => .inr he
  | x :: r, Y, hY, h0, e, he => by
    unfold putsT at h0 he
    by_cases hm : mayT Y x.1 x.2 = 0
    · rw [if_pos hm] at h0 he
      rcases puts_mem r (hY.putT x.1 x.2) h0 e he with h | h
      · exact .inl (List.mem_cons_of_mem _ h)
      · unfold putT at h
        rw [if_pos hm, put_iff hY.up] at h
        rcases h with h | h
        · exact .inl (by rw [h]; exact List.mem_cons_self ..)
        · exact .inr h.1
    · rw [if_neg hm] at h0
      exact absurd h0 hm
theorem puts_has : ∀ (l : List NE) {Y : List NE}, TI Y → Up ordS l → (putsT Y l).1 = 0 → ∀ e ∈ l, e ∈ (putsT Y l).2
  | [], _, _, _, _, _, he => by cases he
  | x :: r, Y, hY, hu, h0, e, he => by
    have hr := List.pairwise_cons.1 hu
    unfold putsT at h0 ⊢
    by_cases hm : mayT Y x.1 x.2 = 0
    · rw [if_pos hm] at h0 ⊢
      rcases List.mem_cons.1 he with rfl | he
      · refine puts_keep r (hY.putT e.1 e.2) h0 e ?_ (fun z hz e' => ?_)
        · unfold putT
          rw [if_pos hm, put_iff hY.up]
          exact .inl rfl
        · have := hr.1 z hz
          rw [e', ordS_refl] at this
          omega
      · exact puts_has r (hY.putT x.1 x.2) hr.2 h0 e he
    · rw [if_neg hm] at h0
      exact absurd h0 hm
/-- what a graft that is done leaves under its path -/
theorem undT_graft {g : ByteArray} {xs l : List NE} (hti : TI xs) (hu : Up ordS l) (hl : ∀ e ∈ l, awayT g e = false) (h0 : (putsT (xs.filter (awayT g)) l).1 = 0) : undT g (putsT (xs.filter (awayT g)) l).2 = l := by
  have hY := hti.away g
  have hR := putsT_ti l hY
  refine up_ext ordS_ord _ _ (undT_up hR.up) hu (fun e => ?_)
  rw [undT_iff]
  constructor
  · rintro ⟨h1, h2⟩
    rcases puts_mem l hY h0 e h1 with h | h
    · exact h
    · have := (List.mem_filter.1 h).2
      rw [h2] at this; cases this
  · intro h
    exact ⟨puts_has l hY hu h0 e h, hl e h⟩
/-- what a step of the plan may be, as the path that is put as a whole sees it -/
def StepOk (g : ByteArray) (ys : List NE) (t : StepP) : Prop := (t.graft = true → t.path = g ∧ t.items = undT g ys) ∧ (t.graft = false → insideN [g] t.path = false)
theorem doS_und (g : ByteArray) (us ys : List NE) (hys : Up ordS ys) (s : DS) (t : StepP) (ht : StepOk g ys t) (hti : TI s.xs) (h : undT g s.xs = us ∨ undT g s.xs = undT g ys) : TI (doS s t).2.xs ∧ (undT g (doS s t).2.xs = us ∨ undT g (doS s t).2.xs = undT g ys) := by
  unfold doS
  cases hg : t.graft with
  | true =>
    rw [if_pos rfl]
    obtain ⟨hp, hi⟩ := ht.1 hg
    rcases stepD_xs s (graftW s.room s.xs t.path t.items).1 (graftW s.room s.xs t.path t.items).2 with e | ⟨h0, e⟩
    · rw [e]; exact ⟨hti, h⟩
    · rw [e]
      rw [hp, hi] at h0 ⊢
      unfold graftW at h0 ⊢
      split at h0
      · simp at h0
      · rename_i hna
        rw [if_neg hna]
        split at h0
        · rename_i hz
          rw [if_pos hz]
          refine ⟨putsT_ti _ (hti.away g), .inr (undT_graft hti (undT_up hys) (fun e he => ((undT_iff g ys e).1 he).2) hz)⟩
        · rename_i hz
          exact absurd h0 hz
  | false =>
    rw [if_neg (by simp)]
    have hp := ht.2 hg
    by_cases hk : t.node.kind = 0
    · rw [if_pos hk]
      rcases stepD_xs s (whyDrop s.xs t.path) (dropT s.xs t.path) with e | ⟨h0, e⟩
      · rw [e]; exact ⟨hti, h⟩
      · rw [e]
        refine ⟨hti.dropT t.path, ?_⟩
        unfold dropT
        rw [if_pos h0, undT_drop hti.up hp]
        exact h
    · rw [if_neg hk]
      rcases stepD_xs s (putW s.room s.xs t.path t.node) (putT s.xs t.path t.node) with e | ⟨h0, e⟩
      · rw [e]; exact ⟨hti, h⟩
      · rw [e]
        refine ⟨hti.putT t.path t.node, ?_⟩
        unfold putT
        split
        · rw [undT_put hti.up hp]; exact h
        · exact h
theorem doN_und (g : ByteArray) (us ys : List NE) (hys : Up ordS ys) : ∀ (l : List StepP) (s : DS), (∀ t ∈ l, StepOk g ys t) → TI s.xs → (undT g s.xs = us ∨ undT g s.xs = undT g ys) → TI (doN s l).xs ∧ (undT g (doN s l).xs = us ∨ undT g (doN s l).xs = undT g ys)
  | [], s, _, hti, h => ⟨hti, h⟩
  | t :: r, s, ht, hti, h => by
    have h1 := doS_und g us ys hys s t (ht t (List.mem_cons_self ..)) hti h
    unfold doN
    split
    · exact doN_und g us ys hys r _ (fun z hz => ht z (List.mem_cons_of_mem _ hz)) h1.1 h1.2
    · exact h1
/-- the steps of a plan with one such path -/
theorem planN_ok (g : ByteArray) (xs ys : List NE) : ∀ t ∈ planN xs ys [g], StepOk g ys t := fun t ht => by
  have htop : ∀ p, isTop [g] p = true ↔ p = g := fun p => by
    unfold isTop
    simp
    exact eq_comm
  rcases List.mem_append.1 ht with h | h
  · obtain ⟨p, hp, e⟩ := List.mem_filterMap.1 h
    unfold awayN at e
    split at e
    · rename_i hc
      have := (htop p).1 hc.1
      subst this
      cases e
      exact ⟨fun _ => ⟨rfl, hc.2.2.symm⟩, fun h => (by cases h)⟩
    · split at e
      · cases e
      · rename_i hin
        split at e
        · cases e; exact ⟨fun h => (by cases h), fun _ => (by simpa using hin)⟩
        · cases e
  · obtain ⟨p, hp, e⟩ := List.mem_filterMap.1 h
    unfold comeN at e
    split at e
    · rename_i hc
      have := (htop p).1 hc.1
      subst this
      cases e
      exact ⟨fun _ => ⟨rfl, rfl⟩, fun h => (by cases h)⟩
    · split at e
      · cases e
      · rename_i hin
        split at e
        · cases e; exact ⟨fun h => (by cases h), fun _ => (by simpa using hin)⟩
        · cases e
end Go.Proofs.YtmpgmgjokliceaaGreatDoor
/- plan.Do: steps done on a directory. -/
set_option linter.unusedVariables false
set_option linter.unusedSimpArgs false
namespace Go.Proofs.YtmpgmgjokliceaaGreatDoor
open Go Go.RowKit
open Sw
/-- a row is right and small behind a step -/
theorem _root_.Sw.RowOk.puts15 {k : Nat} {xs : List NE} (h : RowOk k xs) {L : List NE} (hL : ∀ e ∈ L, NdIn e.2 ∧ e.2.data.size ≤ 500) (hl : L.length ≤ 15) : RowOk (k + 15) (putsT xs L).2 :=
  ⟨putsT_ti L h.ti, Nat.le_trans (putsT_len L xs) (by have := h.len; omega), fun e he => by rcases putsT_mem L he with he | he; exact h.small e he; exact (hL e he).2, fun e he => by rcases putsT_mem L he with he | he; exact h.nd e he; exact (hL e he).1⟩
/-- what a step may hold -/
structure StepIn (t : StepP) : Prop where
  path : t.path.size ≤ 90000
  node : NdIn t.node
  data : t.node.data.size ≤ 500
  len : t.items.length ≤ 15
  items : ∀ e ∈ t.items, e.1.size ≤ 90000 ∧ NdIn e.2 ∧ e.2.data.size ≤ 500
theorem doS_ok {s : DS} {t : StepP} {k m : Nat} (ht : StepIn t) (h : RowOk m s.xs) (hok : s.Ok k) : RowOk (m + 15) (doS s t).2.xs ∧ (doS s t).2.Ok (k + 1) := by
  unfold doS
  split
  · refine ⟨?_, hok.step _ _⟩
    rcases stepD_xs s (graftW s.room s.xs t.path t.items).1 (graftW s.room s.xs t.path t.items).2 with e | ⟨h0, e⟩
    · rw [e]; exact h.more (by omega)
    · rw [e]
      unfold graftW
      split
      · exact h.more (by omega)
      · split
        · exact (h.away t.path).puts15 (fun e he => (ht.items e he).2) ht.len
        · exact (h.away t.path).puts15 (fun e he => (ht.items e he).2) ht.len
  · split
    · refine ⟨?_, hok.step _ _⟩
      rcases stepD_xs s (whyDrop s.xs t.path) (dropT s.xs t.path) with e | ⟨h0, e⟩
      · rw [e]; exact h.more (by omega)
      · rw [e]; exact (h.drop t.path).more (by omega)
    · refine ⟨?_, hok.step _ _⟩
      rcases stepD_xs s (putW s.room s.xs t.path t.node) (putT s.xs t.path t.node) with e | ⟨h0, e⟩
      · rw [e]; exact h.more (by omega)
      · rw [e]; exact (h.put t.path ht.node ht.data).more (by omega)
theorem lies_dir {w W : World} {bd bt bm : Nat} {s : DS} (h : DirAt w bd bt bm s) (hg : w.grownBy W (some bd)) {te : TypeId} {size : Nat} {α : Type} {E : α → List Value} (hne : 96 ≠ te) {v : Value} {its : List α} (hl : Lies w te size E v its) : Lies W te size E v its :=
  hl.kept fun g cur _ hB => by
    have h2 := hB.grown hg (fun e => by
      have e' : g = bd := by simpa using e
      subst e'
      exact Blk.other hB h.box (Ne.symm hne) rfl)
    unfold Blk at h2 hB
    rw [h2, hB]
set_option maxRecDepth 100000 in
set_option maxHeartbeats 4000000 in
theorem planDo_any (w : World) (bd bt bm : Nat) (s : DS) (k m : Nat) (v : Value) (l : List (StepP × Value)) (h : DirAt w bd bt bm s) (hok : s.Ok k) (hk : k + l.length ≤ 900) (hr : RowOk m s.xs) (hm : m + 15 * l.length ≤ 985) (hs : Lies w 40 7 eSt v l) (hit : ∀ t ∈ l, Lies w 70 5 eCSN t.2 t.1.items) (hin : ∀ t ∈ l, StepIn t.1) :
    Calls Tryz.prog 18 #[.pointer (some ⟨bd, 0, none⟩), v] w fun e w' => (∃ n why : Int, e = .returned (.tuple #[.int .i64 n, .int .i64 why])) ∧ (∃ bt' bm', DirAt w' bd bt' bm' (doN s (l.map Prod.fst))) ∧ w.grownBy w' (some bd) := by
  obtain ⟨N, hN⟩ : ∃ N, l.length = N := ⟨_, rfl⟩
  have HN := Lib.hid hN
  have HI := Lib.hid hin
  have H0 := Lib.hid (And.intro h (And.intro hs hit))
  obtain ⟨A, c, rfl, hc1, hc2, -⟩ := hs
  rw [hN] at hk hm hc1
  unfold maxLen at hc2
  have HS0 := Lib.hid (And.intro hok hr)
  rw [hN]
  clear h hit hin hN hok hr
  go_enter Tryz.func18, Tryz.ntmps18
  go_wp2_with fail
  go_loopw [4, 5, 11] (fun _ _ iv wr => ∃ (i : Nat) (s2 : DS) (bt2 bm2 : Nat), i ≤ N ∧ iv = .int .i64 i ∧ doN s2 ((l.drop i).map Prod.fst) = doN s (l.map Prod.fst) ∧ DirAt wr bd bt2 bm2 s2 ∧ s2.Ok (k + i) ∧ RowOk (m + 15 * i) s2.xs ∧ w.grownBy wr (some bd) ∧ Lies wr 40 7 eSt (.slice A N c) l ∧ (∀ t ∈ l, Lies wr 70 5 eCSN t.2 t.1.items)) (fun _ _ iv _ => N - (intOf iv).toNat)
  case atStart => exact ⟨0, s, bt, bm, Nat.zero_le _, rfl, by rw [List.drop_zero], H0.out.1, HS0.out.1, HS0.out.2, grown_refl _ _, by have := H0.out.2.1; rw [HN.out] at this; exact this, H0.out.2.2⟩
  case round =>
    obtain ⟨i, s2, bt2, bm2, hi, rfl, hdo, hD, hok2, hr2, hg, hL, hit⟩ := hrel
    by_cases hlt : i < N
    · have hiL : i < l.length := by have := HN.out; omega
      obtain ⟨A', c', hA, _, _, hso⟩ := hL.slv eSt_len
      rw [HN.out] at hA
      obtain ⟨rfl, rfl⟩ : A = A' ∧ c = c' := by injection hA with e1 e2 e3; exact ⟨e1, e3⟩
      clear hA
      obtain ⟨b, off, rfl, hbb, hcs⟩ := hso (by omega)
      have c0 := hcs i hiL 0 (by omega)
      have c1 := hcs i hiL 1 (by omega)
      have c2 := hcs i hiL 2 (by omega)
      have c3 := hcs i hiL 3 (by omega)
      have c4 := hcs i hiL 4 (by omega)
      have c5 := hcs i hiL 5 (by omega)
      have c6 := hcs i hiL 6 (by omega)
      simp only [eSt, List.getElem?_cons_succ, List.getElem?_cons_zero, Nat.add_zero] at c0 c1 c2 c3 c4 c5 c6
      clear hcs hso
      have hi1 : (i : Int) < N := by omega
      have hitx := hit _ (List.getElem_mem hiL)
      have hinx := HI.out _ (List.getElem_mem hiL)
      rw [List.drop_eq_getElem_cons hiL, List.map_cons] at hdo
      obtain ⟨x, hx⟩ : ∃ x, l[i] = x := ⟨_, rfl⟩
      simp only [hx] at c0 c1 c2 c3 c4 c5 c6 hitx hinx hdo
      clear hx
      obtain ⟨⟨p, ⟨ka, kb, kc, kd⟩, gr, its⟩, sv⟩ := x
      simp only at c0 c1 c2 c3 c4 c5 c6 hitx hinx hdo
      obtain ⟨nk, hnk⟩ : ∃ n, its.length = n := ⟨_, rfl⟩
      have hsl := hitx.slv eCSN_len
      obtain ⟨B6, q6, rfl, -⟩ := hitx
      rw [hnk] at c6 hsl
      have HH := Lib.hid (And.intro hdo (And.intro hD (And.intro hok2 (And.intro hr2 (And.intro hg (And.intro hL hit))))))
      have HIN := Lib.hid hinx
      have HOK := Lib.hid (doS_ok hinx hr2 hok2)
      obtain ⟨V, hV⟩ : ∃ V, wr.alloc (.cells #[.string p, .int .i64 ka, .int .i64 kb, .int .u32 kc, .string kd, .bool gr, .slice B6 nk q6] 40) = V := ⟨_, rfl⟩
      obtain ⟨nb, hnb⟩ : ∃ n, wr.heap.size = n := ⟨_, rfl⟩
      have hBN : Blk V nb 40 #[.string p, .int .i64 ka, .int .i64 kb, .int .u32 kc, .string kd, .bool gr, .slice B6 nk q6] := by rw [← hV, ← hnb]; exact Blk.new _ _ _
      have hba : Below wr.heap.size wr V := by rw [← hV]; exact (Below.refl _ wr).alloc (Nat.le_refl _) _
      have HBA := Lib.hid hba
      have n0 := hBN.cell 0
      have n1 := hBN.cell 1
      have n2 := hBN.cell 2
      have n3 := hBN.cell 3
      have n4 := hBN.cell 4
      have n5 := hBN.cell 5
      have n6 := hBN.cell 6
      simp only [List.getElem?_toArray, List.getElem?_cons_succ, List.getElem?_cons_zero] at n0 n1 n2 n3 n4 n5 n6
      have HSL := Lib.hid (hsl.below hba (Nat.le_refl _))
      clear hdo hD hok2 hr2 hg hL hit hinx hsl hnk hba hBN
      obtain ⟨R, hR⟩ : ∃ R, doS s2 ⟨p, ⟨ka, kb, kc, kd⟩, gr, its⟩ = R := ⟨_, rfl⟩
      have hdo2 := HH.out.1
      change (if (doS s2 ⟨p, ⟨ka, kb, kc, kd⟩, gr, its⟩).1 = 0 then doN (doS s2 ⟨p, ⟨ka, kb, kc, kd⟩, gr, its⟩).2 ((l.drop (i + 1)).map Prod.fst) else (doS s2 ⟨p, ⟨ka, kb, kc, kd⟩, gr, its⟩).2) = _ at hdo2
      rw [hR] at hdo2 HOK
      have HDO := Lib.hid hdo2
      clear hdo2
      have hml := HH.out.2.2.2.1.len
      have hDV := HH.out.2.1.below HBA.out
      have hby : ∀ zs : List NE, RowOk (m + 15 * i + 15) zs → bytesT zs ≤ 1000000000 := fun zs hz => Nat.le_trans hz.bytes (by omega)
      cases gr with
      | true =>
        have hds : doS s2 ⟨p, ⟨ka, kb, kc, kd⟩, true, its⟩ = stepD s2 (graftW s2.room s2.xs p its).1 (graftW s2.room s2.xs p its).2 := if_pos rfl
        have HC := Lib.hid (dirGraft_any V bd bt2 bm2 s2 (k + i) p (.slice B6 nk q6) its hDV HH.out.2.2.2.1.ti HH.out.2.2.1 (by omega) (by omega) (by have := HIN.out.len; simp only at this; omega) HIN.out.path (fun x hx => ⟨(HIN.out.items x hx).1, (HIN.out.items x hx).2.1⟩) (hby _ ((HH.out.2.2.2.1.away p).puts15 (fun e he => (HIN.out.items e he).2) HIN.out.len)) HSL.out)
        rw [← hds, hR] at HC
        clear hds hby hDV hml
        go_wp2_with fail
        refine HC.out.mono ?_
        rintro e w6 ⟨rfl, ⟨bt3, bm3, hD3⟩, hg3⟩
        have hga : wr.grownBy w6 (some bd) := grown_trans (grown_below HBA.out) hg3
        have HX := Lib.hid (And.intro hD3 (And.intro (grown_trans HH.out.2.2.2.2.1 hga) (And.intro (lies_dir HH.out.2.1 hga (by decide) HH.out.2.2.2.2.2.1) (fun t ht => lies_dir HH.out.2.1 hga (by decide) (HH.out.2.2.2.2.2.2 t ht)))))
        clear hD3 hg3 hga HC
        by_cases hw : R.1 = 0
        · have HDN := Lib.hid (show doN R.2 ((l.drop (i + 1)).map Prod.fst) = doN s (l.map Prod.fst) from by have := HDO.out; rw [if_pos hw] at this; exact this)
          rw [hw]
          clear hw
          go_wp2_with fail
          go_roundw
          case rel => exact ⟨i + 1, R.2, bt3, bm3, by omega, by go_num, HDN.out, HX.out.1, by have := HOK.out.2; rw [Nat.add_assoc] at this; exact this, by rw [show m + 15 * (i + 1) = m + 15 * i + 15 by omega]; exact HOK.out.1, HX.out.2⟩
          case measure => simp [intOf]; omega
        · have HDN := Lib.hid (show R.2 = doN s (l.map Prod.fst) from by have := HDO.out; rw [if_neg hw] at this; exact this)
          obtain ⟨y, hy⟩ : ∃ y, R.1 = y := ⟨_, rfl⟩
          rw [hy] at hw ⊢
          have hy0 : (y != 0) = true := by simpa using hw
          clear hy
          go_wp2_with fail
          go_ret2
          exact ⟨⟨_, _, rfl⟩, ⟨bt3, bm3, by rw [← HDN.out]; exact HX.out.1⟩, HX.out.2.1⟩
      | false =>
        by_cases hk0 : ka = 0
        · have hds : doS s2 ⟨p, ⟨ka, kb, kc, kd⟩, false, its⟩ = stepD s2 (whyDrop s2.xs p) (dropT s2.xs p) := by unfold doS; rw [if_neg (by simp), if_pos hk0]
          have HC := Lib.hid (dirRemove_any V bd bt2 bm2 s2 (k + i) p hDV HH.out.2.2.1 (by omega) (by omega) HIN.out.path)
          rw [← hds, hR] at HC
          have tk : (ka == 0) = true := by simpa using hk0
          clear hds hby hDV hml hk0
          go_wp2_with fail
          refine HC.out.mono ?_
          rintro e w6 ⟨rfl, ⟨bt3, bm3, hD3⟩, hg3⟩
          have hga : wr.grownBy w6 (some bd) := grown_trans (grown_below HBA.out) hg3
          have HX := Lib.hid (And.intro hD3 (And.intro (grown_trans HH.out.2.2.2.2.1 hga) (And.intro (lies_dir HH.out.2.1 hga (by decide) HH.out.2.2.2.2.2.1) (fun t ht => lies_dir HH.out.2.1 hga (by decide) (HH.out.2.2.2.2.2.2 t ht)))))
          clear hD3 hg3 hga HC
          by_cases hw : R.1 = 0
          · have HDN := Lib.hid (show doN R.2 ((l.drop (i + 1)).map Prod.fst) = doN s (l.map Prod.fst) from by have := HDO.out; rw [if_pos hw] at this; exact this)
            rw [hw]
            clear hw
            go_wp2_with fail
            go_roundw
            case rel => exact ⟨i + 1, R.2, bt3, bm3, by omega, by go_num, HDN.out, HX.out.1, by have := HOK.out.2; rw [Nat.add_assoc] at this; exact this, by rw [show m + 15 * (i + 1) = m + 15 * i + 15 by omega]; exact HOK.out.1, HX.out.2⟩
            case measure => simp [intOf]; omega
          · have HDN := Lib.hid (show R.2 = doN s (l.map Prod.fst) from by have := HDO.out; rw [if_neg hw] at this; exact this)
            obtain ⟨y, hy⟩ : ∃ y, R.1 = y := ⟨_, rfl⟩
            rw [hy] at hw ⊢
            have hy0 : (y != 0) = true := by simpa using hw
            clear hy
            go_wp2_with fail
            go_ret2
            exact ⟨⟨_, _, rfl⟩, ⟨bt3, bm3, by rw [← HDN.out]; exact HX.out.1⟩, HX.out.2.1⟩
        · have hds : doS s2 ⟨p, ⟨ka, kb, kc, kd⟩, false, its⟩ = stepD s2 (putW s2.room s2.xs p ⟨ka, kb, kc, kd⟩) (putT s2.xs p ⟨ka, kb, kc, kd⟩) := by unfold doS; rw [if_neg (by simp), if_neg hk0]
          have HC := Lib.hid (dirPut_any V bd bt2 bm2 s2 (k + i) p ⟨ka, kb, kc, kd⟩ hDV HH.out.2.2.1 (by omega) (by omega) HIN.out.path (by have := parent_small p; omega) HIN.out.node (hby _ ((HH.out.2.2.2.1.put p HIN.out.node HIN.out.data).more (by omega))))
          rw [← hds, hR] at HC
          simp only [Nd.c] at HC
          have tk : (ka == 0) = false := by simpa using hk0
          clear hds hby hDV hml hk0
          go_wp2_with fail
          refine HC.out.mono ?_
          rintro e w6 ⟨rfl, ⟨bt3, bm3, hD3⟩, hg3⟩
          have hga : wr.grownBy w6 (some bd) := grown_trans (grown_below HBA.out) hg3
          have HX := Lib.hid (And.intro hD3 (And.intro (grown_trans HH.out.2.2.2.2.1 hga) (And.intro (lies_dir HH.out.2.1 hga (by decide) HH.out.2.2.2.2.2.1) (fun t ht => lies_dir HH.out.2.1 hga (by decide) (HH.out.2.2.2.2.2.2 t ht)))))
          clear hD3 hg3 hga HC
          by_cases hw : R.1 = 0
          · have HDN := Lib.hid (show doN R.2 ((l.drop (i + 1)).map Prod.fst) = doN s (l.map Prod.fst) from by have := HDO.out; rw [if_pos hw] at this; exact this)
            rw [hw]
            clear hw
            go_wp2_with fail
            go_roundw
            case rel => exact ⟨i + 1, R.2, bt3, bm3, by omega, by go_num, HDN.out, HX.out.1, by have := HOK.out.2; rw [Nat.add_assoc] at this; exact this, by rw [show m + 15 * (i + 1) = m + 15 * i + 15 by omega]; exact HOK.out.1, HX.out.2⟩
            case measure => simp [intOf]; omega
          · have HDN := Lib.hid (show R.2 = doN s (l.map Prod.fst) from by have := HDO.out; rw [if_neg hw] at this; exact this)
            obtain ⟨y, hy⟩ : ∃ y, R.1 = y := ⟨_, rfl⟩
            rw [hy] at hw ⊢
            have hy0 : (y != 0) = true := by simpa using hw
            clear hy
            go_wp2_with fail
            go_ret2
            exact ⟨⟨_, _, rfl⟩, ⟨bt3, bm3, by rw [← HDN.out]; exact HX.out.1⟩, HX.out.2.1⟩
    · obtain rfl : i = N := by omega
      have hdn : s2 = doN s (l.map Prod.fst) := by rw [← hdo, List.drop_eq_nil_of_le (by have := HN.out; omega)]; rfl
      have HF := Lib.hid (And.intro hD (And.intro hg hdn))
      clear hdo hD hok2 hr2 hg hL hit hdn
      go_wp2_with fail
      go_ret2
      exact ⟨⟨_, _, rfl⟩, ⟨bt2, bm2, by rw [← HF.out.2.2]; exact HF.out.1⟩, HF.out.2.1⟩
end Go.Proofs.YtmpgmgjokliceaaGreatDoor
/- A live directory with a tree: filled of law 32. -/
set_option linter.unusedVariables false
set_option linter.unusedSimpArgs false
namespace Go.Proofs.YtmpgmgjokliceaaGreatDoor
open Go Go.RowKit
open Sw
set_option maxRecDepth 100000 in
set_option maxHeartbeats 4000000 in
theorem filled_any (w : World) (v : Value) (xs : List NE) (h : SlV w 5 eCSN v xs) (hl : xs.length ≤ 100) (hti : TI xs) (hz : ∀ e ∈ xs, e.1.size ≤ 90000 ∧ NdIn e.2 ∧ e.2.data.size ≤ 500) :
    Calls Tryz.prog 16 #[v] w fun e w' => ∃ bd bt bm, e = .returned (.pointer (some ⟨bd, 0, none⟩)) ∧ DirAt w' bd bt bm ⟨-1, -1, xs.length, false, xs⟩ ∧ w.heap.size ≤ bd ∧ Below w.heap.size w w' := by
  obtain ⟨A, c, rfl, hc1, hc2, hsl⟩ := h
  obtain ⟨n, hn⟩ : ∃ n, xs.length = n := ⟨_, rfl⟩
  rw [hn] at hc1 hl ⊢
  unfold maxLen at hc2
  have HL := Lib.hid hn; clear hn
  have HS := Lib.hid hsl; clear hsl
  have HX := Lib.hid (And.intro hti hz); clear hti hz
  go_enter Tryz.func16, Tryz.ntmps16
  go_wp2_with fail
  refine (dirNew_any w (-1)).mono ?_
  rintro e w1 ⟨bd, bt, bm, rfl, hD, hbd, hb1⟩
  have H1 := Lib.hid (And.intro hD (And.intro hbd hb1))
  clear hD hbd hb1
  go_wp2_with fail
  go_loopw [9] (fun iv wr => ∃ (i bt bm : Nat), i ≤ n ∧ iv = .int .i64 i ∧ DirAt wr bd bt bm ⟨-1, -1, i, false, xs.take i⟩ ∧ Below w.heap.size w wr) (fun iv _ => n - (intOf iv).toNat)
  case atStart => exact ⟨0, bt, bm, Nat.zero_le _, rfl, H1.out.1, H1.out.2.2⟩
  case round =>
    obtain ⟨i, bt2, bm2, hi, rfl, hD, hb⟩ := hrel
    by_cases hlt : i < n
    · have hiL : i < xs.length := by have := HL.out; omega
      obtain ⟨b, off, rfl, hbb, hcs⟩ := (HS.out.below hb (Nat.le_refl _)) (by omega)
      have c0 := hcs i hiL 0 (by omega)
      have c1 := hcs i hiL 1 (by omega)
      have c2 := hcs i hiL 2 (by omega)
      have c3 := hcs i hiL 3 (by omega)
      have c4 := hcs i hiL 4 (by omega)
      simp only [eCSN, List.getElem?_cons_succ, List.getElem?_cons_zero, Nat.add_zero] at c0 c1 c2 c3 c4
      clear hcs
      have hi1 : (i : Int) < n := by omega
      obtain ⟨hm1, hm2⟩ := may_take HX.out.1 (by have := HL.out; omega) i hiL
      have hzx := HX.out.2 _ (List.getElem_mem hiL)
      obtain ⟨x, hx⟩ : ∃ x, xs[i] = x := ⟨_, rfl⟩
      simp only [hx] at c0 c1 c2 c3 c4 hm1 hm2 hzx
      clear hx
      obtain ⟨p, ka, kb, kc, kd⟩ := x
      simp only at c0 c1 c2 c3 c4 hm1 hm2 hzx
      obtain ⟨V, hV⟩ : ∃ V, wr.alloc (.cells #[.string p, .int .i64 ka, .int .i64 kb, .int .u32 kc, .string kd] 70) = V := ⟨_, rfl⟩
      obtain ⟨nb, hnb⟩ : ∃ n, wr.heap.size = n := ⟨_, rfl⟩
      have hBN : Blk V nb 70 #[.string p, .int .i64 ka, .int .i64 kb, .int .u32 kc, .string kd] := by rw [← hV, ← hnb]; exact Blk.new _ _ _
      have hba : Below wr.heap.size wr V := by rw [← hV]; exact (Below.refl _ wr).alloc (Nat.le_refl _) _
      have n0 := hBN.cell 0
      have n1 := hBN.cell 1
      have n2 := hBN.cell 2
      have n3 := hBN.cell 3
      have n4 := hBN.cell 4
      simp only [List.getElem?_toArray, List.getElem?_cons_succ, List.getElem?_cons_zero] at n0 n1 n2 n3 n4
      have hbt : bytesT (xs.take (i + 1)) ≤ 1000000000 := by
        have h1 := bytesT_le (xs.take (i + 1)) (fun e he => (HX.out.2 e (List.mem_of_mem_take he)).2.2)
        have h2 : (xs.take (i + 1)).length ≤ 100 := by rw [List.length_take]; have := HL.out; omega
        omega
      have hput := dirPut_any V bd bt2 bm2 ⟨-1, -1, i, false, xs.take i⟩ 1000 p ⟨ka, kb, kc, kd⟩ (hD.below hba) ⟨by simp, by simp, by simp, by simp; omega⟩ (by omega) (by simp; omega) hzx.1 (by have := parent_small p; omega) hzx.2.1 (by rw [hm2]; exact hbt)
      have hw0 : putW (-1) (xs.take i) p ⟨ka, kb, kc, kd⟩ = 0 := by unfold putW fitsW; rw [hm1]; simp
      have hst : stepD ⟨-1, -1, i, false, xs.take i⟩ (putW (-1) (xs.take i) p ⟨ka, kb, kc, kd⟩) (putT (xs.take i) p ⟨ka, kb, kc, kd⟩) = (0, ⟨-1, -1, (i : Int) + 1, false, xs.take (i + 1)⟩) := by rw [hw0, hm2]; rfl
      simp only [hst] at hput
      simp only [Nd.c] at hput
      have HP := Lib.hid hput
      have HB := Lib.hid (hb.trans (hba.mono hb.size))
      clear hput hst hw0 hbt hm1 hm2 hzx hD hb hba hBN
      go_wp2_with fail
      refine HP.out.mono ?_
      rintro e w5 ⟨rfl, ⟨bt3, bm3, hD3⟩, hg3⟩
      have H5 := Lib.hid (And.intro hD3 (HB.out.grown hg3 HB.out.size (fun k hk => by cases hk; exact H1.out.2.1)))
      clear hD3 hg3 HP
      go_wp2_with fail
      go_roundw
      case rel => exact ⟨i + 1, bt3, bm3, by omega, by go_num, by have := H5.out.1; push_cast; exact this, H5.out.2⟩
      case measure => simp [intOf]; omega
    · obtain rfl : i = n := by omega
      have htk : xs.take i = xs := List.take_of_length_le (by have := HL.out; omega)
      rw [htk] at hD
      have HF := Lib.hid (And.intro hD hb)
      clear hD hb htk
      go_wp2_with fail
      go_ret
      exact ⟨bd, bt2, bm2, rfl, HF.out.1, H1.out.2.1, HF.out.2⟩
end Go.Proofs.YtmpgmgjokliceaaGreatDoor
/- What the steps of a plan leave on a directory: nothing that neither tree has; and what a step of a plan may hold. -/
set_option linter.unusedVariables false
set_option linter.unusedSimpArgs false
namespace Sw
open Go
/-- things that are all different, and all among some, are no more than these -/
theorem sub_len : ∀ (l Z : List ByteArray), l.Pairwise (fun a b => ¬ a = b) → (∀ e ∈ l, e ∈ Z) → l.length ≤ Z.length
  | [], _, _, _ => Nat.zero_le _
  | a :: r, Z, hp, hs => by
    have h := List.pairwise_cons.1 hp
    have ha := hs a (List.mem_cons_self ..)
    have h1 := sub_len r (Z.filter fun z => !decide (z = a)) h.2 (fun e he => List.mem_filter.2 ⟨hs e (List.mem_cons_of_mem _ he), by simpa using fun e' => h.1 e he e'.symm⟩)
    have h2 : (Z.filter fun z => !decide (z = a)).length < Z.length := List.length_filter_lt_length_iff_exists.2 ⟨a, ha, by simp⟩
    rw [List.length_cons]
    omega
end Sw
namespace Go.Proofs.YtmpgmgjokliceaaGreatDoor
open Go Go.RowKit
open Sw
theorem up_sub_len {l xs ys : List NE} (hu : Up ordS l) (h : ∀ e ∈ l, e ∈ xs ∨ e ∈ ys) : l.length ≤ xs.length + ys.length := by
  have h1 := sub_len (l.map Prod.fst) (xs.map Prod.fst ++ ys.map Prod.fst) (List.pairwise_map.2 (hu.imp fun {a b} hab e => by rw [e, ordS_refl] at hab; omega)) (fun p hp => by
    obtain ⟨e, he, rfl⟩ := List.mem_map.1 hp
    rcases h e he with h | h
    · exact List.mem_append_left _ (List.mem_map.2 ⟨e, h, rfl⟩)
    · exact List.mem_append_right _ (List.mem_map.2 ⟨e, h, rfl⟩))
  simp only [List.length_map, List.length_append] at h1
  exact h1
/-- what a step may bring -/
def StepSub (ys : List NE) (t : StepP) : Prop := (t.graft = true → ∀ e ∈ t.items, e ∈ ys) ∧ (t.graft = false → ¬ t.node.kind = 0 → (t.path, t.node) ∈ ys)
theorem doS_sub {xs ys : List NE} {s : DS} {t : StepP} (ht : StepSub ys t) (h : ∀ e ∈ s.xs, e ∈ xs ∨ e ∈ ys) : ∀ e ∈ (doS s t).2.xs, e ∈ xs ∨ e ∈ ys := by
  unfold doS
  cases hg : t.graft with
  | true =>
    rw [if_pos rfl]
    rcases stepD_xs s (graftW s.room s.xs t.path t.items).1 (graftW s.room s.xs t.path t.items).2 with e | ⟨h0, e⟩
    · rw [e]; exact h
    · rw [e]
      have hp : ∀ e ∈ (putsT (s.xs.filter (awayT t.path)) t.items).2, e ∈ xs ∨ e ∈ ys := fun e he => by
        rcases putsT_mem _ he with he | he
        · exact h e (List.mem_filter.1 he).1
        · exact .inr (ht.1 hg e he)
      unfold graftW
      split
      · exact h
      · split
        · exact hp
        · exact hp
  | false =>
    rw [if_neg (by simp)]
    by_cases hk : t.node.kind = 0
    · rw [if_pos hk]
      rcases stepD_xs s (whyDrop s.xs t.path) (dropT s.xs t.path) with e | ⟨h0, e⟩
      · rw [e]; exact h
      · rw [e]; exact fun e he => h e (dropT_mem he)
    · rw [if_neg hk]
      rcases stepD_xs s (putW s.room s.xs t.path t.node) (putT s.xs t.path t.node) with e | ⟨h0, e⟩
      · rw [e]; exact h
      · rw [e]
        intro e he
        rcases putT_mem he with rfl | he
        · exact .inr (ht.2 hg hk)
        · exact h e he
theorem doN_sub {xs ys : List NE} : ∀ (l : List StepP) (s : DS), (∀ t ∈ l, StepSub ys t) → (∀ e ∈ s.xs, e ∈ xs ∨ e ∈ ys) → ∀ e ∈ (doN s l).xs, e ∈ xs ∨ e ∈ ys
  | [], s, _, h => h
  | t :: r, s, ht, h => by
    have h1 := doS_sub (ht t (List.mem_cons_self ..)) h
    unfold doN
    split
    · exact doN_sub r _ (fun z hz => ht z (List.mem_cons_of_mem _ hz)) h1
    · exact h1
theorem doN_rowok : ∀ (l : List StepP) (s : DS) (k m : Nat), (∀ t ∈ l, StepIn t) → RowOk m s.xs → s.Ok k → RowOk (m + 15 * l.length) (doN s l).xs
  | [], s, k, m, _, h, _ => h
  | t :: r, s, k, m, ht, h, hok => by
    have h1 := doS_ok (ht t (List.mem_cons_self ..)) h hok
    unfold doN
    split
    · have h2 := doN_rowok r _ _ _ (fun z hz => ht z (List.mem_cons_of_mem _ hz)) h1.1 h1.2
      exact h2.more (by rw [List.length_cons]; omega)
    · exact h1.1.more (by rw [List.length_cons]; omega)
/-- a step of a plan holds nothing but what the trees have -/
theorem planN_sub (xs ys : List NE) (tops : List ByteArray) (hy : Up ordS ys) : ∀ t ∈ planN xs ys tops, StepSub ys t := fun t ht => by
  rcases List.mem_append.1 ht with h | h
  · obtain ⟨p, hp, e⟩ := List.mem_filterMap.1 h
    unfold awayN at e
    split at e
    · cases e; exact ⟨fun _ e he => (by cases he), fun h => (by cases h)⟩
    · split at e
      · cases e
      · split at e
        · cases e; exact ⟨fun h => (by cases h), fun _ h => absurd rfl h⟩
        · cases e
  · obtain ⟨p, hp, e⟩ := List.mem_filterMap.1 h
    unfold comeN at e
    split at e
    · cases e; exact ⟨fun _ e he => (List.mem_filter.1 he).1, fun h => (by cases h)⟩
    · split at e
      · cases e
      · split at e
        · cases e; exact ⟨fun h => (by cases h), fun _ h => getT_kind hy h⟩
        · cases e
theorem ndZ_in : NdIn ndZ := ⟨by decide, by decide, Nat.zero_le _⟩
theorem planN_in (xs ys : List NE) (tops : List ByteArray) (hy : Up ordS ys) (hl : ys.length ≤ 15) (hx : ∀ e ∈ xs, e.1.size ≤ 90000) (hz : ∀ e ∈ ys, e.1.size ≤ 90000 ∧ NdIn e.2 ∧ e.2.data.size ≤ 500) (hg : ∀ p ∈ tops, p.size ≤ 90000) : ∀ t ∈ planN xs ys tops, StepIn t := fun t ht => by
  have hpp : ∀ p ∈ pathsN xs ys tops, p.size ≤ 90000 := fun p hp => by
    rcases List.mem_append.1 ((pathsS_mem _ _).1 hp) with h | h
    · rcases List.mem_append.1 h with h | h
      · obtain ⟨z, hz', e⟩ := List.mem_map.1 h
        rw [← e]; exact hx z hz'
      · obtain ⟨z, hz', e⟩ := List.mem_map.1 h
        rw [← e]; exact (hz z hz').1
    · exact hg p h
  have hgd : ∀ p, NdIn (getT ys p) ∧ (getT ys p).data.size ≤ 500 := fun p => by
    rcases Classical.em (∃ e ∈ ys, e.1 = p) with ⟨e, he, rfl⟩ | hn
    · rw [getT_in hy he]; exact (hz e he).2
    · rw [getT_out hy (fun e he h => hn ⟨e, he, h⟩)]; exact ⟨ndZ_in, Nat.zero_le _⟩
  rcases List.mem_append.1 ht with h | h
  · obtain ⟨p, hp, e⟩ := List.mem_filterMap.1 h
    have hp' := hpp p (List.mem_reverse.1 hp)
    unfold awayN at e
    split at e
    · cases e; exact ⟨hp', ndZ_in, Nat.zero_le _, Nat.zero_le _, fun e he => (by cases he)⟩
    · split at e
      · cases e
      · split at e
        · cases e; exact ⟨hp', ndZ_in, Nat.zero_le _, Nat.zero_le _, fun e he => (by cases he)⟩
        · cases e
  · obtain ⟨p, hp, e⟩ := List.mem_filterMap.1 h
    have hp' := hpp p hp
    unfold comeN at e
    split at e
    · cases e; exact ⟨hp', ndZ_in, Nat.zero_le _, Nat.le_trans (undT_lenP p ys) hl, fun e he => hz e (List.mem_filter.1 he).1⟩
    · split at e
      · cases e
      · split at e
        · cases e; exact ⟨hp', (hgd p).1, (hgd p).2, Nat.zero_le _, fun e he => (by cases he)⟩
        · cases e
/-- where the path is not right, there is nothing under it -/
theorem undT_bad {g : ByteArray} {xs : List NE} (h : TI xs) (hg : rightL g.data.toList = false) : undT g xs = [] := by
  refine List.eq_nil_iff_forall_not_mem.2 (fun e he => ?_)
  obtain ⟨h1, h2⟩ := (undT_iff g xs e).1 he
  obtain ⟨p, n⟩ := e
  rw [awayT_eq] at h2
  have hr := h.paths _ h1
  have h3 : (decide (g = p) || inS (upsS p) g) = true := by
    cases hc : (decide (g = p) || inS (upsS p) g) with
    | true => rfl
    | false => rw [hc] at h2; cases h2
  simp only [Bool.or_eq_true, decide_eq_true_eq] at h3
  rcases h3 with rfl | h3
  · rw [hg] at hr; cases hr
  · obtain ⟨k, _, _, _, hk⟩ := ups_mem ((inS_iff _ _).1 h3)
    rw [hg] at hk; cases hk
theorem topsN_one (g : ByteArray) : topsN [g] = if rightL g.data.toList = true then [g] else [] := by
  unfold topsN
  rw [List.filter_cons]
  have h : topKeep [g] g = rightL g.data.toList := by
    unfold topKeep
    cases hr : rightL g.data.toList with
    | false => rfl
    | true =>
      have : inS (upsS g) g = false := by
        cases hc : inS (upsS g) g with
        | false => rfl
        | true =>
          obtain ⟨k, h1, h2, h3, _⟩ := ups_mem ((inS_iff _ _).1 hc)
          have := congrArg List.length h3
          rw [List.length_take] at this
          omega
      simp [this]
  rw [h]
  split <;> rfl
/-- what the plan with one such path leaves, plainly -/
theorem plan_whole (xs ys : List NE) (g : ByteArray) (f : Int) (hf : -1 ≤ f) (hf1 : f ≤ 1000) (hx : TI xs) (hy : TI ys) (hxl : xs.length ≤ 15) (hyl : ys.length ≤ 15) (hxz : ∀ e ∈ xs, e.1.size ≤ 90000 ∧ NdIn e.2 ∧ e.2.data.size ≤ 500) (hyz : ∀ e ∈ ys, e.1.size ≤ 90000 ∧ NdIn e.2 ∧ e.2.data.size ≤ 500) (hg : g.size ≤ 90000) {D : DS} (hD : doN ⟨-1, f, xs.length, false, xs⟩ (planN xs ys (topsN [g])) = D) :
    putsT [] D.xs = (0, D.xs) ∧ D.xs.length ≤ 30 ∧ (∀ e ∈ D.xs, e.1.size ≤ 90000 ∧ NdIn e.2 ∧ e.2.data.size ≤ 500) ∧ ((undT g D.xs = undT g xs) ∨ (undT g D.xs = undT g ys) ∨ (undT g xs = [] ∧ undT g ys = [])) := by
  have htz : ∀ p ∈ topsN [g], p.size ≤ 90000 := fun p hp => by
    have := (List.mem_filter.1 hp).1
    simp at this
    rw [this]; exact hg
  have hin := planN_in xs ys (topsN [g]) hy.up hyl (fun e he => (hxz e he).1) hyz htz
  have hrow := doN_rowok _ ⟨-1, f, xs.length, false, xs⟩ 15 15 hin ⟨hx, hxl, fun e he => (hxz e he).2.2, fun e he => (hxz e he).2.1⟩ ⟨hf, by show f ≤ _; omega, by simp, by simp; omega⟩
  have hsub := doN_sub (xs := xs) (ys := ys) _ ⟨-1, f, xs.length, false, xs⟩ (planN_sub xs ys (topsN [g]) hy.up) (fun e he => .inl he)
  rw [hD] at hrow hsub
  have hlen : D.xs.length ≤ 30 := Nat.le_trans (up_sub_len hrow.ti.up hsub) (by omega)
  refine ⟨puts_self hrow.ti (by omega), hlen, fun e he => ?_, ?_⟩
  · rcases hsub e he with h | h
    · exact hxz e h
    · exact hyz e h
  · cases hr : rightL g.data.toList with
    | false => exact .inr (.inr ⟨undT_bad hx hr, undT_bad hy hr⟩)
    | true =>
      have ht := topsN_one g
      rw [hr, if_pos rfl] at ht
      rw [ht] at hD
      have h2 := (doN_und g (undT g xs) ys hy.up (planN xs ys [g]) ⟨-1, f, xs.length, false, xs⟩ (planN_ok g xs ys) hx (.inl rfl)).2
      rw [hD] at h2
      rcases h2 with h2 | h2
      · exact .inl h2
      · exact .inr (.inl h2)
end Go.Proofs.YtmpgmgjokliceaaGreatDoor
