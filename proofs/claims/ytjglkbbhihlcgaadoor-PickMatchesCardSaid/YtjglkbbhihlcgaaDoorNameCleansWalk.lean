/- The walk of NameCleans. -/
import Derived.Test.YtjglkbbhihlcgaaDoorRefClean
import Derived.Test.YtjglkbbhihlcgaaDoorLift
set_option linter.unusedVariables false
set_option linter.unusedSimpArgs false
namespace Sw
open Go Go.RowKit
theorem rightL_parts {p : List UInt8} (h : rightL p = true) : ∀ x ∈ spL p, partL x = true := by
  unfold rightL at h
  rw [Bool.and_eq_true] at h
  exact fun x hx => List.all_eq_true.1 h.2 x hx
theorem partL_facts {x : List UInt8} (h : partL x = true) : (∀ b ∈ x, okB b = true) ∧ x ≠ [] ∧ x ≠ [46] ∧ x ≠ [46, 46] := by
  unfold partL at h
  simp only [Bool.and_eq_true, decide_eq_true_eq, List.all_eq_true] at h
  refine ⟨h.1.1.1.1, fun e => ?_, h.1.1.2, h.1.2⟩
  subst e
  have := h.1.1.1.2.1
  simp at this
theorem mkB_inj {a b : List UInt8} (h : mkB a = mkB b) : a = b := by
  have := congrArg (fun x : ByteArray => x.data.toList) h
  simpa [data_mkB] using this
theorem clFold_all : ∀ (xs l : List ByteArray), (∀ x ∈ xs, x ≠ ⟨#[]⟩ ∧ x ≠ mkB [46] ∧ x ≠ mkB [46, 46]) → clFold l xs = some (l ++ xs)
  | [], l, _ => by rw [List.append_nil]; rfl
  | x :: xs, l, h => by
    obtain ⟨h1, h2, h3⟩ := h x (by simp)
    have hs : clStep l x = some (l ++ [x]) := by
      unfold clStep
      rw [if_neg (fun e => e.elim h1 h2), if_neg h3]
    show (match clStep l x with | none => none | some l' => clFold l' xs) = _
    rw [hs]
    show clFold (l ++ [x]) xs = _
    rw [clFold_all xs _ (fun y hy => h y (List.mem_cons_of_mem _ hy)), List.append_assoc]
    rfl
theorem jn_spS (s : ByteArray) : jnL (datL (spS s)) = s.data.toList := by
  have : datL (spS s) = spL s.data.toList := spS_data s
  rw [this, jnL_spL]
theorem jnL_mem {b : UInt8} : ∀ (l : List (List UInt8)), b ∈ jnL l → b = 47 ∨ ∃ x ∈ l, b ∈ x
  | [], h => by simp [jnL] at h
  | [x], h => .inr ⟨x, by simp, h⟩
  | x :: y :: l, h => by
    rw [jnL_cons x _ (by simp), List.mem_append, List.mem_cons] at h
    rcases h with h | h | h
    · exact .inr ⟨x, by simp, h⟩
    · exact .inl h
    · rcases jnL_mem (y :: l) h with h | ⟨z, hz, hb⟩
      · exact .inl h
      · exact .inr ⟨z, List.mem_cons_of_mem _ hz, hb⟩
/-- what is right is its own -/
theorem clean_right {s : ByteArray} (h : rightL s.data.toList = true) : cleanS s = s ∧ cleanB s = true := by
  have hp := rightL_parts h
  have hb : bad0 s = false := by
    rw [bad0_eq, Bool.or_eq_false_iff]
    constructor
    · refine decide_eq_false fun e => ?_
      cases hd : s.data.toList with
      | nil => rw [hd] at e; cases e
      | cons a t =>
        rw [hd] at e hp
        injection e with e
        subst e
        rw [spL_slash] at hp
        exact (partL_facts (hp [] (by simp))).2.1 rfl
    · refine decide_eq_false fun e => ?_
      rw [← jnL_spL s.data.toList] at e
      rcases jnL_mem _ e with e | ⟨x, hx, he⟩
      · cases e
      · exact absurd ((partL_facts (hp x hx)).1 0 he) (by decide)
  have ho : cleanO s = some (spS s) := by
    unfold cleanO
    rw [hb, if_neg (by simp), clFold_all]
    · rfl
    · intro x hx
      unfold spS at hx
      obtain ⟨a, ha, rfl⟩ := List.mem_map.1 hx
      obtain ⟨_, f1, f2, f3⟩ := partL_facts (hp a ha)
      exact ⟨fun e => f1 (mkB_inj e), fun e => f2 (mkB_inj e), fun e => f3 (mkB_inj e)⟩
  have hc := clean_some ho
  rw [jn_spS] at hc
  obtain ⟨_, h1, h2⟩ := hc.1 h
  rw [mkB_data] at h1
  exact ⟨h1, h2⟩
theorem clean_out (s : ByteArray) : (cleanB s = true → rightL (cleanS s).data.toList = true) ∧ (cleanB s = false → cleanS s = ⟨#[]⟩) := by
  cases ho : cleanO s with
  | none =>
    have h1 : cleanS s = ⟨#[]⟩ := by unfold cleanS; rw [ho]
    have h2 : cleanB s = false := by unfold cleanB; rw [ho]
    rw [h1, h2]
    exact ⟨fun h => (by cases h), fun _ => rfl⟩
  | some l =>
    have hc := clean_some ho
    cases hr : rightL (jnL (datL l)) with
    | true =>
      obtain ⟨_, h1, h2⟩ := hc.1 hr
      rw [h1, h2, data_mkB]
      exact ⟨fun _ => hr, fun h => by cases h⟩
    | false =>
      obtain ⟨h1, h2⟩ := hc.2 hr
      rw [h1, h2]
      exact ⟨fun h => (by cases h), fun _ => rfl⟩
theorem clean_size (s : ByteArray) : (cleanS s).size ≤ s.size + 1 := by
  cases ho : cleanO s with
  | none =>
    have h1 : cleanS s = ⟨#[]⟩ := by unfold cleanS; rw [ho]
    rw [h1]
    exact Nat.zero_le _
  | some l =>
    have hw : wt l ≤ s.size + 1 := by
      have h := ho
      unfold cleanO at h
      split at h
      · cases h
      · have := clFold_wt _ _ _ h
        rw [spS_wt] at this
        have h0 : wt [] = 0 := rfl
        omega
    have hj := wt_jn l
    have hc := clean_some ho
    cases hr : rightL (jnL (datL l)) with
    | true => rw [(hc.1 hr).2.1, mkB_size]; omega
    | false => rw [(hc.2 hr).1]; exact Nat.zero_le _
def exP : ByteArray := ⟨#[97, 47, 46, 47, 98, 47, 46, 46, 47, 99, 47]⟩
theorem ex_clean : cleanS exP = mkB [97, 47, 99] ∧ cleanB exP = true := by
  constructor
  · kernel_rfl
  · kernel_rfl
end Sw
namespace Go.Proofs.YtjglkbbhihlcgaaDoor
open Go Go.ChangeShapes Go.WideShapes Go.ChangeAt Go.RowKit
open Go.ChangeMaps (open_string shut_string)
open Sw
set_option maxRecDepth 100000 in
set_option maxHeartbeats 1000000 in
theorem lives13 (w : World) : Calls Tryd.prog 12 #[] w fun e w' => e = .returned (.bool true) ∧ Below w.heap.size w w' := by
  have hc := clean_any w exP (by decide)
  rw [ex_clean.1, ex_clean.2] at hc
  have HC := Lib.hid (show Calls Tryd.prog 9 #[.string ⟨#[97, 47, 46, 47, 98, 47, 46, 46, 47, 99, 47]⟩] w fun e w' => e = .returned (.tuple #[.string ⟨#[97, 47, 99]⟩, .bool true]) ∧ Below w.heap.size w w' from hc)
  clear hc
  go_enter Tryd.func12, Tryd.ntmps12
  go_wp2_with fail
  refine HC.out.mono ?_
  rintro e w1 ⟨rfl, hb1⟩
  go_wp2_with fail
  refine (reserved_any _).mono ?_
  rintro e w2 ⟨rfl, rfl⟩
  go_wp2_with fail
  go_ret
  exact ⟨rfl, hb1⟩
set_option maxRecDepth 100000 in
set_option maxHeartbeats 4000000 in
theorem nameCleans_main (w : World) (s : ByteArray) (hm : s.size ≤ maxLen) :
    Calls Tryd.prog 3 #[.string s] w fun e w' => e = .returned (.bool true) ∧ Below w.heap.size w w' := by
  unfold maxLen at hm
  obtain ⟨k, hk, hmin⟩ : ∃ k : Nat, k ≤ s.size ∧ min (s.size : Int) 300 = k := ⟨min s.size 300, by omega, by omega⟩
  have hk6 : k ≤ 300 := by omega
  have hsz : (s.extract 0 k).size = k := by rw [ByteArray.size_extract]; omega
  obtain ⟨S, hS⟩ : ∃ S, s.extract 0 k = S := ⟨_, rfl⟩
  rw [hS] at hsz
  have HC := Lib.hid (fun W => clean_any W S (by omega))
  have HD := Lib.hid (fun W => refClean_any W S (by omega))
  have HR := Lib.hid (fun W => right_any W S (by omega))
  have hco := clean_out S
  have hcr := fun (h : rightL S.data.toList = true) => clean_right h
  have hcz := clean_size S
  generalize hQ : cleanS S = Q at *
  generalize hB : cleanB S = B at *
  have hss : (Q.toList != Q.toList) = false := by simp
  have hbb : (B != B) = false := by simp
  cases B with
  | false =>
    have hQe := hco.2 rfl
    have hQ2 : Q.toList.isEmpty = true := by rw [hQe, str_empty]; exact decide_eq_true rfl
    have hr : rightL S.data.toList = false := by
      cases h : rightL S.data.toList with
      | false => rfl
      | true => have := (hcr h).2; cases this
    rw [hr] at HR
    clear hco hcr hcz hQe hr hsz hQ hB
    go_enter Tryd.func3, Tryd.ntmps3
    go_wp2_with fail
    refine (HC.out _).mono ?_
    rintro e w1 ⟨rfl, hb1⟩
    go_wp2_with fail
    refine (HD.out _).mono ?_
    rintro e w2 ⟨rfl, hb2⟩
    have hbw2 := hb1.trans (hb2.mono hb1.size)
    go_wp2_with fail
    refine (HR.out _).mono ?_
    rintro e w3 ⟨rfl, hb3⟩
    have hbw3 := hbw2.trans (hb3.mono hbw2.size)
    go_wp2_with fail
    refine (lives13 _).mono ?_
    rintro e w4 ⟨rfl, hb4⟩
    go_wp2_with fail
    go_ret
    exact ⟨rfl, hbw3.trans (hb4.mono hbw3.size)⟩
  | true =>
    have hr := hco.1 rfl
    obtain ⟨q1, q2⟩ := clean_right hr
    have HC2 := Lib.hid (fun W => clean_any W Q (by omega))
    have HR2 := Lib.hid (fun W => right_any W Q (by omega))
    have HSP := Lib.hid (fun W => refSplit_any W Q (by omega))
    have HP := Lib.hid refPart_any
    rw [q1, q2] at HC2
    rw [hr] at HR2
    have hall : ∀ x ∈ spS Q, partL x.data.toList = true ∧ x.size ≤ 1000 ∧ (x.toList == [46, 46]) = false := fun x hx => by
      have hz := spS_size Q x hx
      unfold spS at hx
      obtain ⟨a, ha, rfl⟩ := List.mem_map.1 hx
      have hp := rightL_parts hr a ha
      obtain ⟨_, _, _, f3⟩ := partL_facts hp
      refine ⟨by rw [data_mkB]; exact hp, by omega, ?_⟩
      rw [str_is]
      exact decide_eq_false (fun e => f3 (mkB_inj e))
    have hpos : 0 < (spS Q).length := List.length_pos_iff.2 (spS_ne Q)
    have hlen := spS_len Q
    have hqq : (Q.toList == Q.toList) = true := by simp
    clear hco hcr hsz hQ hB hr q1 q2
    generalize spS Q = L at *
    go_enter Tryd.func3, Tryd.ntmps3
    go_wp2_with fail
    refine (HC.out _).mono ?_
    rintro e w1 ⟨rfl, hb1⟩
    go_wp2_with fail
    refine (HD.out _).mono ?_
    rintro e w2 ⟨rfl, hb2⟩
    have hbw2 := hb1.trans (hb2.mono hb1.size)
    go_wp2_with fail
    refine (HSP.out _).mono ?_
    rintro e w3 ⟨v, rfl, hown, hb3⟩
    have hbw3 := hbw2.trans (hb3.mono hbw2.size)
    obtain ⟨A, c, rfl, hc, hmc, hsl⟩ := SlV.of_own hown bE_len (by omega)
    unfold maxLen at hmc
    obtain ⟨b, off, rfl, hbb', hcs⟩ := hsl hpos
    obtain ⟨N, hN⟩ : ∃ N, L.length = N := ⟨_, rfl⟩
    have HCS := Lib.hid (And.intro hN (And.intro hcs hall)); clear hcs hown hsl hall
    rw [hN] at hc hpos hlen ⊢
    clear hN
    go_wp2_with fail
    go_loopw [2, 8, 49] (fun r _ iv wr => ∃ i : Nat, i ≤ N ∧ r = .bool false ∧ iv = .int .i64 i ∧ w3 = wr) (fun _ _ iv _ => N - (intOf iv).toNat)
    case atStart => exact ⟨0, Nat.zero_le _, rfl, rfl, rfl⟩
    case round =>
      obtain ⟨i, hi, rfl, rfl, rfl⟩ := hrel
      by_cases hlt : i < N
      · have hiL : i < L.length := by have := HCS.out.1; omega
        have hci := HCS.out.2.1 i hiL 0 (by omega)
        obtain ⟨hp1, hp2, hp3⟩ := HCS.out.2.2 L[i] (List.getElem_mem hiL)
        have hpi := HP.out w3 L[i] (by omega)
        rw [hp1] at hpi
        have HPI := Lib.hid hpi; clear hpi hp1
        simp [bE] at hci
        have hi1 : (i : Int) < N := by omega
        generalize L[i] = X at *
        go_wp2_with fail
        refine HPI.out.mono ?_
        rintro e w5 ⟨rfl, rfl⟩
        go_wp2_with fail
        go_roundw
        case rel => exact ⟨i + 1, by omega, rfl, by go_num, by simp⟩
        case measure => simp [intOf]; omega
      · obtain rfl : i = N := by omega
        clear hlt
        go_wp2_with fail
        refine (HC2.out _).mono ?_
        rintro e w5 ⟨rfl, hb5⟩
        have hbw5 := hbw3.trans (hb5.mono hbw3.size)
        go_wp2_with fail
        refine (HR2.out _).mono ?_
        rintro e w6 ⟨rfl, hb6⟩
        have hbw6 := hbw5.trans (hb6.mono hbw5.size)
        go_wp2_with fail
        refine (lives13 _).mono ?_
        rintro e w7 ⟨rfl, hb7⟩
        go_wp2_with fail
        go_ret
        exact ⟨rfl, hbw6.trans (hb7.mono hbw6.size)⟩
set_option maxRecDepth 100000 in
theorem nameCleans_walk : Walks 3 Tryd.f3 := by
  intro H enc W base args ds ps hval hA hlt hsz
  rw [Tryd.params3] at hA hval
  obtain ⟨v0, d0, rfl, rfl, h0⟩ := trodAll_one hA
  obtain ⟨s, rfl, rfl, rfl, hs⟩ := open_string Tryd.underlying9 (hval 0 9 v0 rfl rfl) h0
  exact nameCleans_main W s hs
end Go.Proofs.YtjglkbbhihlcgaaDoor
