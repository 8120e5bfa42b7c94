/- Several texts, joined for the limit of sixty files; each one opens with its own comment. -/
import Derived.Test.YtihiakkeloejlaaGreatDoorJoin21
import Derived.Test.YtihiakkeloejlaaGreatDoorJoin3
import Derived.Test.YtihiakkeloejlaaGreatDoorJoin10
import Derived.Maps.OwnSet
import Derived.Test.YtihiakkeloejlaaGreatDoorJoin8
import Derived.Test.YtihiakkeloejlaaGreatDoorChecked
import Derived.DeepKeys4
import Derived.Test.YtihiakkeloejlaaGreatDoorJoin13
import Derived.Test.YtihiakkeloejlaaGreatDoorJoin12
/- How often each change is, plainly; the other way round. -/
set_option linter.unusedVariables false
set_option linter.unusedSimpArgs false
namespace Sw
open Go
abbrev OfE := Int × ByteArray × ByteArray
def hasA (M : List (ByteArray × ByteArray)) (p : ByteArray) : Bool := M.any fun m => decide (m.1 = p)
def hasB (M : List (ByteArray × ByteArray)) (p : ByteArray) : Bool := M.any fun m => decide (m.2 = p)
theorem hasA_iff {M : List (ByteArray × ByteArray)} {p : ByteArray} : hasA M p = true ↔ p ∈ M.map Prod.fst := by
  unfold hasA
  rw [List.any_eq_true, List.mem_map]
  simp
theorem hasB_iff {M : List (ByteArray × ByteArray)} {p : ByteArray} : hasB M p = true ↔ p ∈ M.map Prod.snd := by
  unfold hasB
  rw [List.any_eq_true, List.mem_map]
  simp
/-- what becomes of a change, where some moved -/
def ofE (M : List (ByteArray × ByteArray)) (c : ChE) : Option OfE :=
  if c.1 = 1 then (match M.find? (fun m => decide (m.1 = c.2)) with
    | some m => some (4, m)
    | none => some (1, c.2, ⟨#[]⟩))
  else if c.1 = 2 then (if hasB M c.2 = true then none else some (2, c.2, ⟨#[]⟩))
  else some (c.1, c.2, ⟨#[]⟩)
def ofPD (xs ys : List NE) : List OfE := (eachP xs ys).filterMap (ofE (movesP xs ys))
def cntC (k : Int) (l : List OfE) : Nat := (l.filter fun c => decide (c.1 = k)).length
def cntE (k : Int) (l : List ChE) : Nat := (l.filter fun c => decide (c.1 = k)).length
def hitA (M : List (ByteArray × ByteArray)) (c : ChE) : Bool := decide (c.1 = 1) && hasA M c.2
def hitB (M : List (ByteArray × ByteArray)) (c : ChE) : Bool := decide (c.1 = 2) && hasB M c.2
def FourE (E : List ChE) : Prop := ∀ c ∈ E, c.1 = 1 ∨ c.1 = 2 ∨ c.1 = 3 ∨ c.1 = 5
theorem eachP_four (xs ys : List NE) : FourE (eachP xs ys) := by
  intro c hc
  obtain ⟨p, _, he⟩ := List.mem_filterMap.1 hc
  unfold eachE at he
  split at he
  · cases he
  · cases he
    rename_i h0
    show kindP _ _ = 1 ∨ _
    unfold kindP at h0 ⊢
    split
    · rename_i h; rw [if_pos h] at h0; exact absurd rfl h0
    · split
      · exact .inl rfl
      · split
        · exact .inr (.inl rfl)
        · split
          · exact .inr (.inr (.inl rfl))
          · exact .inr (.inr (.inr rfl))
/-- the counts, one change after the other -/
theorem counts (M : List (ByteArray × ByteArray)) : ∀ E : List ChE, FourE E →
    cntC 4 (E.filterMap (ofE M)) = (E.filter (hitA M)).length ∧
    cntC 1 (E.filterMap (ofE M)) + (E.filter (hitA M)).length = cntE 1 E ∧
    cntC 2 (E.filterMap (ofE M)) + (E.filter (hitB M)).length = cntE 2 E ∧
    cntC 3 (E.filterMap (ofE M)) = cntE 3 E ∧ cntC 5 (E.filterMap (ofE M)) = cntE 5 E
  | [], _ => by simp [cntC, cntE]
  | c :: E, h => by
    obtain ⟨i4, i1, i2, i3, i5⟩ := counts M E (fun d hd => h d (List.mem_cons_of_mem _ hd))
    have hc := h c (List.mem_cons_self ..)
    have step : ∀ (k : Int) (o : Option OfE), ofE M c = o → cntC k ((c :: E).filterMap (ofE M)) = cntC k (E.filterMap (ofE M)) + (match o with | some x => if x.1 = k then 1 else 0 | none => 0) := fun k o ho => by
      rw [List.filterMap_cons, ho]
      cases o with
      | none => rfl
      | some x =>
        unfold cntC
        by_cases hk : x.1 = k
        · rw [List.filter_cons_of_pos (by simpa using hk), List.length_cons]; simp [hk]
        · rw [List.filter_cons_of_neg (by simpa using hk)]; simp [hk]
    have stepE : ∀ k : Int, cntE k (c :: E) = cntE k E + if c.1 = k then 1 else 0 := fun k => by
      unfold cntE
      by_cases hk : c.1 = k
      · rw [List.filter_cons_of_pos (by simpa using hk), List.length_cons, if_pos hk]
      · rw [List.filter_cons_of_neg (by simpa using hk), if_neg hk]; rfl
    have stepA : ((c :: E).filter (hitA M)).length = (E.filter (hitA M)).length + if hitA M c = true then 1 else 0 := by
      by_cases hk : hitA M c = true
      · rw [List.filter_cons_of_pos hk, List.length_cons, if_pos hk]
      · rw [List.filter_cons_of_neg hk, if_neg hk]; rfl
    have stepB : ((c :: E).filter (hitB M)).length = (E.filter (hitB M)).length + if hitB M c = true then 1 else 0 := by
      by_cases hk : hitB M c = true
      · rw [List.filter_cons_of_pos hk, List.length_cons, if_pos hk]
      · rw [List.filter_cons_of_neg hk, if_neg hk]; rfl
    obtain ⟨k, p⟩ := c
    simp only at hc stepE
    rcases hc with rfl | rfl | rfl | rfl
    · have hB : hitB M (1, p) = false := by simp [hitB]
      cases hf : M.find? (fun m => decide (m.1 = p)) with
      | some m =>
        have hA : hitA M (1, p) = true := by
          have h1 := List.mem_of_find?_eq_some hf
          have h2 := List.find?_some hf
          have h3 : hasA M p = true := hasA_iff.2 (List.mem_map.2 ⟨m, h1, by simpa using h2⟩)
          simp [hitA, h3]
        have ho : ofE M (1, p) = some (4, m) := by simp [ofE, hf]
        simp only [step _ _ ho, stepE, stepA, stepB, hA, hB]
        simp
        omega
      | none =>
        have hA : hitA M (1, p) = false := by
          have h3 : hasA M p = false := by
            rw [Bool.eq_false_iff]
            intro hm
            obtain ⟨m, h1, h2⟩ := List.mem_map.1 (hasA_iff.1 hm)
            exact List.find?_eq_none.1 hf m h1 (by simpa using h2)
          simp [hitA, h3]
        have ho : ofE M (1, p) = some (1, p, ⟨#[]⟩) := by simp [ofE, hf]
        simp only [step _ _ ho, stepE, stepA, stepB, hA, hB]
        simp
        omega
    · have hA : hitA M (2, p) = false := by simp [hitA]
      by_cases hm : hasB M p = true
      · have hB : hitB M (2, p) = true := by simp [hitB, hm]
        have ho : ofE M (2, p) = none := by simp [ofE, hm]
        simp only [step _ _ ho, stepE, stepA, stepB, hA, hB]
        simp
        omega
      · have hB : hitB M (2, p) = false := by simp [hitB, hm]
        have ho : ofE M (2, p) = some (2, p, ⟨#[]⟩) := by simp [ofE, hm]
        simp only [step _ _ ho, stepE, stepA, stepB, hA, hB]
        simp
        omega
    · have hA : hitA M (3, p) = false := by simp [hitA]
      have hB : hitB M (3, p) = false := by simp [hitB]
      have ho : ofE M (3, p) = some (3, p, ⟨#[]⟩) := by simp [ofE]
      simp only [step _ _ ho, stepE, stepA, stepB, hA, hB]
      simp
      omega
    · have hA : hitA M (5, p) = false := by simp [hitA]
      have hB : hitB M (5, p) = false := by simp [hitB]
      have ho : ofE M (5, p) = some (5, p, ⟨#[]⟩) := by simp [ofE]
      simp only [step _ _ ho, stepE, stepA, stepB, hA, hB]
      simp
      omega
theorem mvP_fst (f g : ByteArray → Pr) : ∀ us G : List ByteArray, ((mvP f g us G).map Prod.fst).Sublist us
  | [], G => List.Sublist.refl _
  | a :: us, G => by
    unfold mvP
    split
    · exact (mvP_fst f g us _).cons_cons a
    · exact (mvP_fst f g us G).cons a
theorem eraseP_nodup {q : ByteArray → Bool} : ∀ {G : List ByteArray} {r : ByteArray}, G.find? q = some r → G.Nodup → r ∉ G.eraseP q ∧ (G.eraseP q).Nodup ∧ ∀ x ∈ G.eraseP q, x ∈ G
  | [], r, h, _ => by cases h
  | b :: G, r, h, hn => by
    obtain ⟨h1, h2⟩ := List.nodup_cons.1 hn
    by_cases hb : q b = true
    · rw [List.find?_cons_of_pos hb] at h
      cases h
      rw [List.eraseP_cons_of_pos hb]
      exact ⟨h1, h2, fun x hx => List.mem_cons_of_mem _ hx⟩
    · rw [List.find?_cons_of_neg hb] at h
      rw [List.eraseP_cons_of_neg hb]
      obtain ⟨k1, k2, k3⟩ := eraseP_nodup h h2
      have hr := List.mem_of_find?_eq_some h
      refine ⟨fun hm => ?_, List.nodup_cons.2 ⟨fun hm => h1 (k3 _ hm), k2⟩, fun x hx => ?_⟩
      · rcases List.mem_cons.1 hm with rfl | hm
        · exact h1 hr
        · exact k1 hm
      · rcases List.mem_cons.1 hx with rfl | hx
        · exact List.mem_cons_self ..
        · exact List.mem_cons_of_mem _ (k3 _ hx)
theorem mvP_snd (f g : ByteArray → Pr) : ∀ us G : List ByteArray, G.Nodup → ((mvP f g us G).map Prod.snd).Nodup ∧ ∀ x ∈ (mvP f g us G).map Prod.snd, x ∈ G
  | [], G, _ => ⟨List.nodup_nil, fun x hx => by cases hx⟩
  | a :: us, G, hn => by
    unfold mvP
    split
    · rename_i r h
      obtain ⟨k1, k2, k3⟩ := eraseP_nodup h hn
      obtain ⟨i1, i2⟩ := mvP_snd f g us _ k2
      refine ⟨List.nodup_cons.2 ⟨fun hm => k1 (i2 _ hm), i1⟩, fun x hx => ?_⟩
      rcases List.mem_cons.1 hx with rfl | hx
      · exact List.mem_of_find?_eq_some h
      · exact k3 _ (i2 _ hx)
    · exact mvP_snd f g us G hn
theorem each_sub (xs ys : List NE) : ∀ ps : List ByteArray, ((ps.filterMap (eachE xs ys)).map Prod.snd).Sublist ps
  | [] => List.Sublist.refl _
  | p :: ps => by
    rw [List.filterMap_cons]
    unfold eachE
    split
    · rename_i h
      exact (each_sub xs ys ps).cons p
    · rename_i c h
      have hc : c.2 = p := by
        split at h
        · cases h
        · cases h; rfl
      rw [List.map_cons, hc]
      exact (each_sub xs ys ps).cons_cons p
theorem rise_nodup {l : List ByteArray} (h : Rise l) : l.Nodup := List.Pairwise.imp (fun {a b} hab => by rintro rfl; have := ordS_neg a a; omega) h
theorem each_nodup (xs ys : List NE) : ((eachP xs ys).map Prod.snd).Nodup := (rise_nodup (pathsS_rise _)).sublist (each_sub xs ys _)
theorem hits (E : List ChE) (hE : (E.map Prod.snd).Nodup) (k : Int) (m : List ByteArray) (hm : m.Nodup) (hin : ∀ p ∈ m, (k, p) ∈ E) (h : ChE → Bool) (hh : ∀ c, h c = true ↔ c.1 = k ∧ c.2 ∈ m) : (E.filter h).length = m.length := by
  have hn : ((E.filter h).map Prod.snd).Nodup := hE.sublist ((List.filter_sublist).map _)
  have hp := (List.perm_ext_iff_of_nodup hn hm).2 (fun p => by
    rw [List.mem_map]
    constructor
    · rintro ⟨c, hc, rfl⟩
      exact ((hh c).1 (List.mem_filter.1 hc).2).2
    · intro hp
      exact ⟨(k, p), List.mem_filter.2 ⟨hin p hp, (hh _).2 ⟨rfl, hp⟩⟩, rfl⟩)
  have := hp.length_eq
  rwa [List.length_map] at this
theorem came_mem {xs ys : List NE} {p : ByteArray} (h : p ∈ cameP xs ys) : ((1 : Int), p) ∈ eachP xs ys := by
  obtain ⟨c, hc, rfl⟩ := List.mem_map.1 h
  obtain ⟨h1, h2⟩ := List.mem_filter.1 hc
  simp only [Bool.and_eq_true, decide_eq_true_eq] at h2
  rw [← h2.1]
  exact h1
theorem gone_mem {xs ys : List NE} {p : ByteArray} (h : p ∈ goneP xs ys) : ((2 : Int), p) ∈ eachP xs ys := by
  obtain ⟨c, hc, rfl⟩ := List.mem_map.1 h
  obtain ⟨h1, h2⟩ := List.mem_filter.1 hc
  simp only [Bool.and_eq_true, decide_eq_true_eq] at h2
  rw [← h2.1]
  exact h1
theorem came_nodup (xs ys : List NE) : (cameP xs ys).Nodup := (each_nodup xs ys).sublist ((List.filter_sublist).map _)
theorem gone_nodup (xs ys : List NE) : (goneP xs ys).Nodup := (each_nodup xs ys).sublist ((List.filter_sublist).map _)
/-- how often each change is -/
theorem of_counts (xs ys : List NE) :
    cntC 4 (ofPD xs ys) = (movesP xs ys).length ∧ cntC 1 (ofPD xs ys) + (movesP xs ys).length = cntE 1 (eachP xs ys) ∧ cntC 2 (ofPD xs ys) + (movesP xs ys).length = cntE 2 (eachP xs ys) ∧
    cntC 3 (ofPD xs ys) = cntE 3 (eachP xs ys) ∧ cntC 5 (ofPD xs ys) = cntE 5 (eachP xs ys) := by
  have h := counts (movesP xs ys) (eachP xs ys) (eachP_four xs ys)
  have hA : ((eachP xs ys).filter (hitA (movesP xs ys))).length = (movesP xs ys).length := by
    rw [hits (eachP xs ys) (each_nodup xs ys) 1 ((movesP xs ys).map Prod.fst) ((came_nodup xs ys).sublist (mvP_fst _ _ _ _)) (fun p hp => came_mem ((mvP_fst _ _ _ _).subset hp)) _ (fun c => by unfold hitA; rw [Bool.and_eq_true, decide_eq_true_eq, hasA_iff]), List.length_map]
  have hB : ((eachP xs ys).filter (hitB (movesP xs ys))).length = (movesP xs ys).length := by
    have hs := mvP_snd (fun p => printN (getT ys p)) (fun p => printN (getT xs p)) (cameP xs ys) (goneP xs ys) (gone_nodup xs ys)
    rw [hits (eachP xs ys) (each_nodup xs ys) 2 ((movesP xs ys).map Prod.snd) hs.1 (fun p hp => gone_mem (hs.2 p hp)) _ (fun c => by unfold hitB; rw [Bool.and_eq_true, decide_eq_true_eq, hasB_iff]), List.length_map]
  rw [hA, hB] at h
  exact h
theorem cntE_swap (k j : Int) (hkj : ∀ i, decide (swapK i = k) = decide (i = j)) (E : List ChE) : cntE k (E.map fun c => (swapK c.1, c.2)) = cntE j E := by
  unfold cntE
  induction E with
  | nil => rfl
  | cons c E ih =>
    rw [List.map_cons]
    by_cases h : c.1 = j
    · rw [List.filter_cons_of_pos (by rw [hkj]; simpa using h), List.filter_cons_of_pos (by simpa using h), List.length_cons, List.length_cons, ih]
    · rw [List.filter_cons_of_neg (by rw [hkj]; simpa using h), List.filter_cons_of_neg (by simpa using h), ih]
theorem swap_else (i k : Int) (h1 : ¬ k = 1) (h2 : ¬ k = 2) : decide (swapK i = k) = decide (i = k) := by
  unfold swapK
  by_cases a : i = 1
  · subst a; simp [h1, h2, Ne.symm]
  · by_cases b : i = 2
    · subst b; simp [Ne.symm h1, Ne.symm h2]
    · simp [a, b]
/-- the other way round: what was added was removed, what else differs differs, as many move back as moved -/
theorem diff_turns {xs ys : List NE} (hx : TI xs) (hy : TI ys) :
    cntC 1 (ofPD xs ys) = cntC 2 (ofPD ys xs) ∧ cntC 2 (ofPD xs ys) = cntC 1 (ofPD ys xs) ∧ cntC 3 (ofPD xs ys) = cntC 3 (ofPD ys xs) ∧ cntC 5 (ofPD xs ys) = cntC 5 (ofPD ys xs) ∧ cntC 4 (ofPD xs ys) = cntC 4 (ofPD ys xs) := by
  have h := of_counts xs ys
  have h' := of_counts ys xs
  have hm := moves_swap hx hy
  have e1 := cntE_swap 2 1 swap_two (eachP xs ys)
  have e2 := cntE_swap 1 2 swap_one (eachP xs ys)
  have e3 := cntE_swap 3 3 (fun i => swap_else i 3 (by decide) (by decide)) (eachP xs ys)
  have e5 := cntE_swap 5 5 (fun i => swap_else i 5 (by decide) (by decide)) (eachP xs ys)
  rw [← eachP_swap hx hy] at e1 e2 e3 e5
  omega
end Sw
/- What moved, as the code finds it: a queue of what is gone for each print. Plainly. -/
set_option linter.unusedVariables false
set_option linter.unusedSimpArgs false
namespace Sw
open Go
section
variable {f g : ByteArray → Pr}
/-- one that came: it takes the first of its print -/
def qStep (f : ByteArray → Pr) (st : (Pr → List ByteArray) × List (ByteArray × ByteArray)) (a : ByteArray) : (Pr → List ByteArray) × List (ByteArray × ByteArray) :=
  match st.1 (f a) with
  | [] => st
  | r :: t => (fun k => if k = f a then t else st.1 k, st.2 ++ [(a, r)])
theorem find_head {k : Pr} : ∀ G : List ByteArray, G.find? (fun r => decide (g r = k)) = (G.filter fun r => decide (g r = k)).head?
  | [] => rfl
  | r :: G => by
    by_cases h : g r = k
    · rw [List.find?_cons_of_pos (by simpa using h), List.filter_cons_of_pos (by simpa using h)]; rfl
    · rw [List.find?_cons_of_neg (by simpa using h), List.filter_cons_of_neg (by simpa using h)]; exact find_head G
theorem erase_filter {k j : Pr} : ∀ G : List ByteArray, ((G.eraseP fun r => decide (g r = k)).filter fun r => decide (g r = j)) = if j = k then (G.filter fun r => decide (g r = k)).tail else G.filter fun r => decide (g r = j)
  | [] => by simp
  | r :: G => by
    by_cases h : g r = k
    · rw [List.eraseP_cons_of_pos (by simpa using h)]
      by_cases hj : j = k
      · subst hj
        rw [if_pos rfl, List.filter_cons_of_pos (by simpa using h)]; rfl
      · rw [if_neg hj, List.filter_cons_of_neg (by simpa using fun e => hj (e.symm.trans h))]
    · rw [List.eraseP_cons_of_neg (by simpa using h)]
      have ih := erase_filter (k := k) (j := j) G
      by_cases hr : g r = j
      · have hj : ¬ j = k := fun e => h (hr.trans e)
        rw [if_neg hj] at ih ⊢
        rw [List.filter_cons_of_pos (by simpa using hr), List.filter_cons_of_pos (by simpa using hr), ih]
      · rw [List.filter_cons_of_neg (by simpa using hr), ih]
        by_cases hj : j = k
        · rw [if_pos hj, if_pos hj, List.filter_cons_of_neg (by simpa using h)]
        · rw [if_neg hj, if_neg hj, List.filter_cons_of_neg (by simpa using hr)]
theorem q_moves : ∀ (us G : List ByteArray) (q : Pr → List ByteArray) (out : List (ByteArray × ByteArray)), (∀ k, q k = G.filter fun r => decide (g r = k)) → (us.foldl (qStep f) (q, out)).2 = out ++ mvP f g us G
  | [], G, q, out, h => by simp [mvP]
  | a :: us, G, q, out, h => by
    rw [List.foldl_cons]
    unfold mvP
    rw [find_head]
    have hq := h (f a)
    cases hf : G.filter (fun r => decide (g r = f a)) with
    | nil =>
      rw [hf] at hq
      have : qStep f (q, out) a = (q, out) := by unfold qStep; simp only [hq]
      rw [this]
      exact q_moves us G q out h
    | cons r t =>
      rw [hf] at hq
      have : qStep f (q, out) a = (fun k => if k = f a then t else q k, out ++ [(a, r)]) := by unfold qStep; simp only [hq]
      rw [this, q_moves us (G.eraseP fun r => decide (g r = f a)) _ _ (fun k => by
        rw [erase_filter, hf]
        by_cases hk : k = f a
        · rw [if_pos hk, if_pos hk]; rfl
        · rw [if_neg hk, if_neg hk, h k])]
      simp
end
/-- what is gone behind some changes, by prints -/
def goneQ (xs : List NE) (E : List ChE) (k : Pr) : List ByteArray := ((E.filter fun c => decide (c.1 = 2) && fileN (getT xs c.2)).map Prod.snd).filter fun r => decide (printN (getT xs r) = k)
theorem goneQ_step (xs : List NE) (E : List ChE) (i : Nat) (h : i < E.length) (k : Pr) : goneQ xs (E.take (i + 1)) k = goneQ xs (E.take i) k ++ if (E[i].1 = 2 ∧ fileN (getT xs E[i].2) = true) ∧ printN (getT xs E[i].2) = k then [E[i].2] else [] := by
  unfold goneQ
  rw [List.take_succ_eq_append_getElem h, List.filter_append, List.map_append, List.filter_append]
  congr 1
  by_cases h1 : E[i].1 = 2 ∧ fileN (getT xs E[i].2) = true
  · rw [List.filter_cons_of_pos (by simpa using h1), List.filter_nil, List.map_cons, List.map_nil]
    by_cases h2 : printN (getT xs E[i].2) = k
    · rw [if_pos ⟨h1, h2⟩, List.filter_cons_of_pos (by simpa using h2)]; rfl
    · rw [if_neg (fun h => h2 h.2), List.filter_cons_of_neg (by simpa using h2)]; rfl
  · rw [if_neg (fun h => h1 h.1), List.filter_cons_of_neg (by simpa using h1)]; rfl
/-- a change: one that came takes its like -/
def mStep (ys : List NE) (st : (Pr → List ByteArray) × List (ByteArray × ByteArray)) (c : ChE) : (Pr → List ByteArray) × List (ByteArray × ByteArray) :=
  if c.1 = 1 ∧ fileN (getT ys c.2) = true then qStep (fun p => printN (getT ys p)) st c.2 else st
theorem foldl_m (ys : List NE) : ∀ (E : List ChE) (st : (Pr → List ByteArray) × List (ByteArray × ByteArray)), E.foldl (mStep ys) st = ((E.filter fun c => decide (c.1 = 1) && fileN (getT ys c.2)).map Prod.snd).foldl (qStep fun p => printN (getT ys p)) st
  | [], st => rfl
  | c :: E, st => by
    rw [List.foldl_cons, foldl_m ys E]
    by_cases h : c.1 = 1 ∧ fileN (getT ys c.2) = true
    · rw [List.filter_cons_of_pos (by simpa using h), List.map_cons, List.foldl_cons]
      unfold mStep
      rw [if_pos h]
    · rw [List.filter_cons_of_neg (by simpa using h)]
      unfold mStep
      rw [if_neg h]
/-- the code's moves -/
theorem moves_code (xs ys : List NE) : ((eachP xs ys).foldl (mStep ys) (goneQ xs (eachP xs ys), [])).2 = movesP xs ys := by
  rw [foldl_m]
  have := q_moves (f := fun p => printN (getT ys p)) (g := fun p => printN (getT xs p)) (cameP xs ys) (goneP xs ys) (goneQ xs (eachP xs ys)) [] (fun k => rfl)
  rw [List.nil_append] at this
  exact this
end Sw
/- Maps from keys of any type that has a law: which value lies at which key. Over any program. (XMapI for keys that are numbers.) -/
set_option linter.unusedVariables false
set_option linter.unusedSimpArgs false
namespace Sw
open Go Go.RowKit
open Go.Maps (Keyed)
/-- a value that is read as itself -/
def asItV (v : Value) : Option (DataW Value × List MemPlace) := some (.held v, [])
def lkV (u : Option Value) (z : DataW Value) : DataW Value := match u with | some v => .held v | none => z
/-- keys of Lean's own: their values, and how they read -/
structure KeyV {α : Type} (P : Program) (k : TypeId) (enc : α → Value) (lit : α → Lit) (ok : α → Prop) : Prop where
  law : Keyed P k
  key : ∀ x, ok x → keyOf P k (enc x) = some (lit x)
  inj : ∀ x y, ok x → ok y → lit x = lit y → x = y
/-- block b is a map of at most n entries, at each key x it has f x -/
def MapV {α : Type} (w : World) (P : Program) (k : TypeId) (lit : α → Lit) (ok : α → Prop) (b n : Nat) (f : α → Option Value) : Prop :=
  ∃ D : DataW Value, w.ownsMap P k asItV b n D ∧ ∀ x, ok x → ∀ z, D.atKey (lit x) z = lkV (f x) z
open Classical in
noncomputable def updV {α : Type} (f : α → Option Value) (x : α) (v : Value) : α → Option Value := fun y => if y = x then some v else f y
section
variable {α : Type} {P : Program} {k : TypeId} {enc : α → Value} {lit : α → Lit} {ok : α → Prop} {w w' : World} {b n : Nat} {f : α → Option Value}
theorem MapV.lt (h : MapV w P k lit ok b n f) : b < w.heap.size := by obtain ⟨D, h1, _⟩ := h; exact h1.lt
theorem MapV.kept {row : Option Nat} (h : MapV w P k lit ok b n f) (hg : w.grownBy w' row) (hne : some b ≠ row) : MapV w' P k lit ok b n f := by
  obtain ⟨D, h1, h2⟩ := h
  exact ⟨D, h1.kept hg hne, h2⟩
theorem MapV.same (h : MapV w P k lit ok b n f) (hb : w'.heap[b]? = w.heap[b]?) : MapV w' P k lit ok b n f := by
  obtain ⟨D, ⟨es, clock, h0, h1, h2, h3⟩, h4⟩ := h
  exact ⟨D, ⟨es, clock, hb.trans h0, h1, h2, h3⟩, h4⟩
theorem MapV.below {B : Nat} (h : MapV w P k lit ok b n f) (hb : Below B w w') (hB : b < B) : MapV w' P k lit ok b n f := h.same (hb.block b hB)
theorem MapV.drew (h : MapV w P k lit ok b n f) : MapV w.drew P k lit ok b n f := h.same rfl
theorem MapV.made (w : World) (P : Program) (k : TypeId) (lit : α → Lit) (ok : α → Prop) : MapV (w.alloc (.map #[] 0)) P k lit ok w.heap.size 0 (fun _ => none) :=
  ⟨.map [], World.ownsMap_made w P k asItV, fun x _ z => rfl⟩
theorem MapV.mono (h : MapV w P k lit ok b n f) {m : Nat} (hm : n ≤ m) : MapV w P k lit ok b m f := by
  obtain ⟨D, h1, h2⟩ := h
  exact ⟨D, h1.mono hm, h2⟩
section
variable {t e : TypeId} (hK : KeyV P k enc lit ok) (ht : P.underlying t = some (.map k e)) {z : Value}
include hK ht
theorem MapV.look (h : MapV w P k lit ok b n f) (hz : (zeroValue e).run P w = .ok z w) {x : α} (hx : ok x) : (Instr.lookup t (.map (some b)) (enc x) false).run P w = .ok ((f x).getD z) w := by
  obtain ⟨D, h1, h2⟩ := h
  obtain ⟨v, ps, hr, hv⟩ := h1.lookup hK.law ht hz (zd := .held z) (zp := []) rfl (hK.key x hx)
  rw [h2 x hx] at hv
  rw [hr]
  unfold asItV lkV at hv
  cases hf : f x with
  | none => rw [hf] at hv; simp at hv; simp [hv]
  | some u => rw [hf] at hv; simp at hv; simp [hv]
theorem MapV.store (h : MapV w P k lit ok b n f) (hn : n < maxLen) {x : α} (hx : ok x) (v : Value) :
    ∃ w', (Instr.mapUpdate t (.map (some b)) (enc x) v).run P w = .ok () w' ∧ MapV w' P k lit ok b (n + 1) (updV f x v) ∧ w.grownBy w' (some b) := by
  obtain ⟨D, h1, h2⟩ := h
  obtain ⟨w', hr, h3, h4⟩ := h1.update hK.law ht hn (hK.key x hx) (d := .held v) (ps := []) (val := v) rfl
  refine ⟨w', hr, ⟨_, h3, fun y hy z => ?_⟩, h4⟩
  unfold lkV updV
  by_cases hyx : y = x
  · subst hyx
    rw [Maps.atKey_put_same h1.isMap (hK.law.key (hK.key y hy))]
    simp
  · rw [Maps.atKey_put_other (fun h => hyx (hK.inj y x hy hx h)), h2 y hy z, if_neg hyx]
    rfl
end
section
variable {ops : Array Oper} {rest : List Oper} {o : Oper} {a : Act} {Q : Exit → Act → World → Prop}
theorem wpList_lookV (hg : o.guard = none) (m x : Operand) (t : TypeId) (hop : o.op = Op.lookup t m x false) (e : TypeId) (hK : KeyV P k enc lit ok) (ht : P.underlying t = some (.map k e)) {z : Value} (hz : (zeroValue e).run P w = .ok z w)
    (b n : Nat) (f : α → Option Value) (hm : a.eval m = .map (some b)) (h : MapV w P k lit ok b n f) (i : α) (hx : a.eval x = enc i) (hi : ok i)
    (hC : wpList P ops Q rest (a.put o.dst ((f i).getD z)) w) : wpList P ops Q (o :: rest) a w := by
  refine wpList_plain hg fun K' hK' => ?_
  have hrun := h.look hK ht hz hi
  unfold Oper.wp
  simp [execOp, hop, hm, hx, hrun, Result.andThen]
  exact hK' _ _ hC
theorem wpList_storeV (hg : o.guard = none) (m x v : Operand) (t : TypeId) (hop : o.op = Op.mapUpdate t m x v) (e : TypeId) (hK : KeyV P k enc lit ok) (ht : P.underlying t = some (.map k e))
    (b n : Nat) (f : α → Option Value) (hm : a.eval m = .map (some b)) (h : MapV w P k lit ok b n f) (hn : n < maxLen) (i : α) (hx : a.eval x = enc i) (hi : ok i) (u : Value) (hv : a.eval v = u)
    (hC : ∀ w', MapV w' P k lit ok b (n + 1) (updV f i u) → w.grownBy w' (some b) → wpList P ops Q rest (a.put o.dst undef) w') : wpList P ops Q (o :: rest) a w := by
  refine wpList_plain hg fun K' hK' => ?_
  obtain ⟨w', hrun, r1, r2⟩ := h.store hK ht hn hi u
  unfold Oper.wp
  simp [execOp, hop, hm, hx, hv, hrun, Result.andThen]
  exact hK' _ _ (hC w' r1 r2)
end
end
end Sw
/- Prints as a map's keys. -/
set_option linter.unusedVariables false
set_option linter.unusedSimpArgs false
namespace Go.Proofs.YtihiakkeloejlaaGreatDoor
open Go Go.RowKit
open Sw
def lsP (p : Pr) : List Lit := [.int .i64 p.kind, .int .i64 p.mode, .int .u32 p.time, .int .i64 p.size, .int .u32 p.sum]
def litP (p : Pr) : Lit := .string (keyBytes (lsP p))
/-- a print whose numbers are of their kinds -/
def okP (p : Pr) : Prop := ∀ a ∈ lsP p, a.wf = true
theorem keyP_law : Maps.Keyed Tryz.prog 78 := Maps.Keyed.of_law (deep_law_laid (by kernel_rfl) (m := 3) (by omega) (of_decide_eq_true (by kernel_rfl)) (by kernel_rfl) (by rw [Tryz.underlying78]))
set_option maxRecDepth 100000 in
theorem keyP_key (p : Pr) (hp : okP p) : keyOf Tryz.prog 78 (.agg p.c) = some (litP p) := by
  obtain ⟨k, m, t, z, u⟩ := p
  have h1 : (Lit.int .i64 k).wf = true := hp _ (by simp [lsP])
  have h2 : (Lit.int .i64 m).wf = true := hp _ (by simp [lsP])
  have h3 : (Lit.int .u32 t).wf = true := hp _ (by simp [lsP])
  have h4 : (Lit.int .i64 z).wf = true := hp _ (by simp [lsP])
  have h5 : (Lit.int .u32 u).wf = true := hp _ (by simp [lsP])
  have hk : Tryz.prog.keyType 78 = true := by kernel_rfl
  have hc : Tryz.prog.cellsOf 78 = 5 := by kernel_rfl
  have c1 : Tryz.prog.cellsOf 3 = 1 := by kernel_rfl
  have c2 : Tryz.prog.cellsOf 52 = 1 := by kernel_rfl
  have hpos : 1 < Tryz.prog.types.size := of_decide_eq_true (by kernel_rfl)
  obtain ⟨d, hd⟩ : ∃ d, Tryz.prog.types.size = d + 1 + 1 := ⟨Tryz.prog.types.size - 2, by omega⟩
  unfold keyOf
  rw [Tryz.underlying78]
  simp only [hk, hd]
  have hf : (Value.agg (Pr.c ⟨k, m, t, z, u⟩)).formed Tryz.prog 78 = true := by
    simp [Value.formed, Pr.c, Tryz.underlying78, hc]
  rw [hf]
  simp [Program.keyLits, Tryz.underlying78, Tryz.underlying3, Tryz.underlying52, Pr.c, Value.cells, hc, c1, c2, h1, h2, h3, h4, h5, litP, lsP]
theorem keyP_inj (p q : Pr) (hp : okP p) (hq : okP q) (h : litP p = litP q) : p = q := by
  have hw : ∀ r : Pr, okP r → ∀ a ∈ lsP r, a.keyWf := fun r hr a ha => by
    have := hr a ha
    simp only [lsP, List.mem_cons, List.not_mem_nil, or_false] at ha
    rcases ha with rfl | rfl | rfl | rfl | rfl <;> exact this
  have := keyBytes_inj (l := lsP p) (l' := lsP q) (by simp [lsP, Alike, Lit.sameKind]) (hw p hp) (hw q hq) (by unfold litP at h; simpa using h)
  obtain ⟨k, m, t, z, u⟩ := p
  obtain ⟨k', m', t', z', u'⟩ := q
  simp [lsP] at this
  obtain ⟨rfl, rfl, rfl, rfl, rfl⟩ := this
  rfl
theorem keyPr : KeyV Tryz.prog 78 (fun p : Pr => Value.agg p.c) litP okP := ⟨keyP_law, keyP_key, keyP_inj⟩
end Go.Proofs.YtihiakkeloejlaaGreatDoor
/- What an iterator asks of its caller: all below a place, and all cells but those of some types, lie as they lay. Over any program. -/
set_option linter.unusedVariables false
set_option linter.unusedSimpArgs false
namespace Sw
open Go Go.RowKit
/-- all below B0, and all cells that are of none of the types ts, lie as they lay -/
structure KeepR (B0 : Nat) (ts : List TypeId) (A B : World) : Prop where
  low : Below B0 A B
  row : ∀ g t cs, Blk A g t cs → ¬ t ∈ ts → Blk B g t cs
theorem KeepR.trans {B0 : Nat} {ts : List TypeId} {A B C : World} (h : KeepR B0 ts A B) (k : KeepR B0 ts B C) : KeepR B0 ts A C := ⟨h.low.trans k.low, fun g t cs hg ht => k.row g t cs (h.row g t cs hg ht) ht⟩
theorem KeepR.refl (B0 : Nat) (ts : List TypeId) (A : World) : KeepR B0 ts A A := ⟨Below.refl _ _, fun _ _ _ h _ => h⟩
theorem KeepR.below {B0 : Nat} {ts : List TypeId} {A B : World} (h : Below A.heap.size A B) (hB : B0 ≤ A.heap.size) : KeepR B0 ts A B := ⟨h.mono hB, fun g t cs hg _ => hg.below h hg.lt⟩
theorem keepR_b {B0 : Nat} {ts : List TypeId} {W : World} {l : Nat} {o : Obj} (o' : Obj) (hB : B0 ≤ l) (h : W.heap[l]? = some o) (ho : o.isCells = false) : KeepR B0 ts W (W.putObj l o') := by
  have hl : B0 ≤ W.heap.size := by have := (Array.getElem?_eq_some_iff.1 h).1; omega
  have hg := grownBy_putObj' W l o'
  refine ⟨(Below.refl B0 W).grown hg hl (fun k e => by cases e; exact hB), fun g t cs hBl _ => hBl.grown hg (fun e => ?_)⟩
  have e' : g = l := by simpa using e
  subst e'
  unfold Blk at hBl
  rw [h] at hBl
  cases hBl
  cases ho
theorem own_keptR {B0 : Nat} {ts : List TypeId} {A B : World} {base : Nat} {e : TypeId} {size n : Nat} {v : Value} {xs : List Value} (h : A.ownsRow base e size v n xs) (hk : KeepR B0 ts A B) (he : ¬ e ∈ ts) : B.ownsRow base e size v n xs := by
  rcases h.2 with ⟨rfl, h0⟩ | ⟨g, cap, cur, rfl, hb, hh, h1, h2, h3, h4⟩
  · exact ⟨h.1, .inl ⟨rfl, h0⟩⟩
  · exact ⟨h.1, .inr ⟨g, cap, cur, rfl, hb, hk.row _ _ _ hh he, h1, h2, h3, h4⟩⟩
end Sw
/- Two maps side by side: plain laws; what a round keeps. -/
set_option linter.unusedVariables false
set_option linter.unusedSimpArgs false
namespace Sw
section
variable {κ ν : Type} {c : κ → κ → Int}
/-- by which of two rows the next key is -/
def sideL (c : κ → κ → Int) : List (κ × ν) → List (κ × ν) → Int
  | _, [] => -1
  | [], _ :: _ => 1
  | a :: _, b :: _ => c a.1 b.1
def joinF (c : κ → κ → Int) : Nat → List (κ × ν) → List (κ × ν) → List (κ × Option ν × Option ν)
  | 0, _, _ => []
  | _ + 1, [], [] => []
  | n + 1, a :: x, [] => (a.1, some a.2, none) :: joinF c n x []
  | n + 1, [], b :: y => (b.1, none, some b.2) :: joinF c n [] y
  | n + 1, a :: x, b :: y => if c a.1 b.1 < 0 then (a.1, some a.2, none) :: joinF c n x (b :: y) else if 0 < c a.1 b.1 then (b.1, none, some b.2) :: joinF c n (a :: x) y else (b.1, some a.2, some b.2) :: joinF c n x y
/-- two rows that rise, as one: each key with its thing on the one side, and on the other one -/
def joinL (c : κ → κ → Int) (x y : List (κ × ν)) : List (κ × Option ν × Option ν) := joinF c (x.length + y.length) x y
theorem joinF_more : ∀ (n m : Nat) (x y : List (κ × ν)), x.length + y.length ≤ n → x.length + y.length ≤ m → joinF c n x y = joinF c m x y
  | 0, m, [], [], _, _ => by cases m <;> rfl
  | n + 1, 0, [], [], _, _ => rfl
  | n + 1, m + 1, [], [], _, _ => rfl
  | n + 1, m + 1, a :: x, [], h1, h2 => by
    unfold joinF
    simp only [List.length_cons, List.length_nil] at h1 h2
    rw [joinF_more n m x [] (by simp only [List.length_nil]; omega) (by simp only [List.length_nil]; omega)]
  | n + 1, m + 1, [], b :: y, h1, h2 => by
    unfold joinF
    simp only [List.length_cons, List.length_nil] at h1 h2
    rw [joinF_more n m [] y (by simp only [List.length_nil]; omega) (by simp only [List.length_nil]; omega)]
  | n + 1, m + 1, a :: x, b :: y, h1, h2 => by
    unfold joinF
    simp only [List.length_cons] at h1 h2
    rw [joinF_more n m x (b :: y) (by simp only [List.length_cons]; omega) (by simp only [List.length_cons]; omega), joinF_more n m (a :: x) y (by simp only [List.length_cons]; omega) (by simp only [List.length_cons]; omega), joinF_more n m x y (by omega) (by omega)]
  | 0, _, a :: x, y, h1, _ => by simp only [List.length_cons] at h1; omega
  | 0, _, [], b :: y, h1, _ => by simp only [List.length_cons] at h1; omega
  | _ + 1, 0, a :: x, y, _, h2 => by simp only [List.length_cons] at h2; omega
  | _ + 1, 0, [], b :: y, _, h2 => by simp only [List.length_cons] at h2; omega
theorem joinL_a (a : κ × ν) (x : List (κ × ν)) : joinL c (a :: x) [] = (a.1, some a.2, none) :: joinL c x [] := by
  unfold joinL
  rw [show (a :: x).length + ([] : List (κ × ν)).length = (x.length + ([] : List (κ × ν)).length) + 1 from by simp only [List.length_cons]; omega]
  rfl
theorem joinL_b (b : κ × ν) (y : List (κ × ν)) : joinL c [] (b :: y) = (b.1, none, some b.2) :: joinL c [] y := by
  unfold joinL
  rw [show ([] : List (κ × ν)).length + (b :: y).length = (([] : List (κ × ν)).length + y.length) + 1 from by simp only [List.length_cons]; omega]
  rfl
theorem joinL_ab (a b : κ × ν) (x y : List (κ × ν)) : joinL c (a :: x) (b :: y) = if c a.1 b.1 < 0 then (a.1, some a.2, none) :: joinL c x (b :: y) else if 0 < c a.1 b.1 then (b.1, none, some b.2) :: joinL c (a :: x) y else (b.1, some a.2, some b.2) :: joinL c x y := by
  unfold joinL
  rw [show (a :: x).length + (b :: y).length = (x.length + y.length + 1) + 1 from by simp only [List.length_cons]; omega]
  conv => lhs; unfold joinF
  rw [joinF_more (x.length + y.length + 1) (x.length + (b :: y).length) x (b :: y) (by simp only [List.length_cons]; omega) (Nat.le_refl _), joinF_more (x.length + y.length + 1) ((a :: x).length + y.length) (a :: x) y (by simp only [List.length_cons]; omega) (Nat.le_refl _), joinF_more (x.length + y.length + 1) (x.length + y.length) x y (by omega) (Nat.le_refl _)]
/-- the next of both -/
theorem join_cases (x y : List (κ × ν)) (h : 0 < x.length + y.length) :
    (sideL c x y < 0 ∧ ∃ a x', x = a :: x' ∧ joinL c x y = (a.1, some a.2, none) :: joinL c x' y) ∨
    (0 < sideL c x y ∧ ∃ b y', y = b :: y' ∧ joinL c x y = (b.1, none, some b.2) :: joinL c x y') ∨
    (sideL c x y = 0 ∧ ∃ a x' b y', x = a :: x' ∧ y = b :: y' ∧ joinL c x y = (b.1, some a.2, some b.2) :: joinL c x' y') := by
  cases x with
  | nil =>
    cases y with
    | nil => simp at h
    | cons b y => exact .inr (.inl ⟨(by decide : (0 : Int) < 1), b, y, rfl, joinL_b b y⟩)
  | cons a x =>
    cases y with
    | nil => exact .inl ⟨(by decide : (-1 : Int) < 0), a, x, rfl, joinL_a a x⟩
    | cons b y =>
      rcases Int.lt_trichotomy (c a.1 b.1) 0 with h1 | h1 | h1
      · exact .inl ⟨h1, a, x, rfl, by rw [joinL_ab, if_pos h1]⟩
      · exact .inr (.inr ⟨h1, a, x, b, y, rfl, rfl, by rw [joinL_ab, if_neg (by omega), if_neg (by omega)]⟩)
      · exact .inr (.inl ⟨h1, b, y, rfl, by rw [joinL_ab, if_neg (by omega), if_pos h1]⟩)
theorem joinL_nil : joinL c ([] : List (κ × ν)) [] = [] := rfl
theorem joinL_end (x y : List (κ × ν)) (h : joinL c x y = []) : x = [] ∧ y = [] := by
  by_cases h0 : 0 < x.length + y.length
  · rcases join_cases (c := c) x y h0 with ⟨_, a, x', _, e⟩ | ⟨_, b, y', _, e⟩ | ⟨_, a, x', b, y', _, _, e⟩ <;> rw [e] at h <;> cases h
  · exact ⟨List.length_eq_zero_iff.1 (by omega), List.length_eq_zero_iff.1 (by omega)⟩
theorem joinF_len : ∀ (n : Nat) (x y : List (κ × ν)), (joinF c n x y).length ≤ n
  | 0, _, _ => Nat.le_refl _
  | n + 1, [], [] => Nat.zero_le _
  | n + 1, a :: x, [] => by unfold joinF; have := joinF_len n x []; simp only [List.length_cons]; omega
  | n + 1, [], b :: y => by unfold joinF; have := joinF_len n [] y; simp only [List.length_cons]; omega
  | n + 1, a :: x, b :: y => by
    unfold joinF
    have h1 := joinF_len n x (b :: y)
    have h2 := joinF_len n (a :: x) y
    have h3 := joinF_len n x y
    split
    · simp only [List.length_cons]; omega
    · split <;> simp only [List.length_cons] <;> omega
theorem joinL_len (x y : List (κ × ν)) : (joinL c x y).length ≤ x.length + y.length := joinF_len _ x y
end
open Go Go.RowKit
/-- the blocks of which K is said lie as they lay -/
structure KeepP (K : Nat → Prop) (A B : World) : Prop where
  size : A.heap.size ≤ B.heap.size
  same : ∀ g, K g → B.heap[g]? = A.heap[g]?
theorem KeepP.refl (K : Nat → Prop) (A : World) : KeepP K A A := ⟨Nat.le_refl _, fun _ _ => rfl⟩
theorem KeepP.trans {K : Nat → Prop} {A B C : World} (h : KeepP K A B) (k : KeepP K B C) : KeepP K A C := ⟨Nat.le_trans h.size k.size, fun g hg => (k.same g hg).trans (h.same g hg)⟩
theorem KeepP.below {K : Nat → Prop} {A B : World} {n : Nat} (h : Below n A B) (hK : ∀ g, K g → g < n) : KeepP K A B := ⟨h.size, fun g hg => h.block g (hK g hg)⟩
theorem KeepP.grown {K : Nat → Prop} {A B : World} {row : Option Nat} (h : A.grownBy B row) (hK : ∀ g, K g → g < A.heap.size ∧ some g ≠ row) : KeepP K A B := ⟨h.size, fun g hg => h.block g (hK g hg).1 (hK g hg).2⟩
theorem keepP_b {K : Nat → Prop} {w : World} (hK : ∀ g, K g → g < w.heap.size) (W : World) (l : Nat) (o o' : Obj) (hl : w.heap.size ≤ l) (h : W.heap[l]? = some o) (hc : o.isCells = false) (hw : o.isWalk = false) : KeepP K W (W.putObj l o') :=
  .below (belowK_b (Nat.le_refl _) W l o o' hl h hc hw) hK
theorem Blk.keptP {K : Nat → Prop} {A B : World} {g : Nat} {t : TypeId} {cs : Array Value} (h : Blk A g t cs) (hk : KeepP K A B) (hg : K g) : Blk B g t cs := (hk.same g hg).trans h
theorem Lies.keptP {K : Nat → Prop} {A B : World} {te : TypeId} {size : Nat} {α : Type} {E : α → List Value} {v : Value} {l : List α} (h : Lies A te size E v l) (hk : KeepP K A B) (hg : ∀ g, v.ownBlock = some g → K g) : Lies B te size E v l := h.kept fun g _ hv _ => hk.same g (hg g hv)
/-- how long a slice is -/
def slLenJ : Value → Nat
  | .slice _ n _ => n
  | _ => 0
end Sw
