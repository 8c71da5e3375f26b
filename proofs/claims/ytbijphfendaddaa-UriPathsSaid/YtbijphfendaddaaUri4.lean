/-
  The walks of the reference's addresses: signs, words, names, ports.
-/
import Derived.Test.YtbijphfendaddaaUri3
import Derived.Test.YtbijphfendaddaaUriP2
namespace Go.Proofs.Ytbijphfendaddaa
open Go.RowKit
set_option linter.unusedVariables false

set_option maxHeartbeats 1000000 in
theorem refVisible_any (l : List UInt8) (w : World) (hl : l.length ≤ maxLen) :
    Calls Try.prog 51 #[.string (S l)] w fun e w' => e = .returned (.bool (visB l)) ∧ w = w' := by
  unfold maxLen at hl
  go_enter Try.func51, Try.ntmps51
  go_wp2
  go_loop [3] (fun i => ∃ k : Nat, i = .int .i64 k ∧ k ≤ l.length ∧ Hid (visB (l.take k) = true)) (fun i => l.length - (intOf i).toNat)
  case atStart => exact ⟨0, rfl, by omega, Lib.hid rfl⟩
  case round =>
    obtain ⟨k, rfl, hk, hin⟩ := hrel
    by_cases hlt : k < l.length
    · have hki : (k : Int) < l.length := by omega
      have hg : ∀ h, (S l)[k]'h = l.getD k 0 := fun h => by rw [get_l _ _ h, S_toList]
      cases hv : visC (l.getD k 0)
      · have hno := Lib.hid (vis_take_no hlt hv)
        clear hin
        generalize l.getD k 0 = c0 at *
        by_cases h33 : c0.toNat < 33
        · have h33i : (c0.toNat : Int) < 33 := by omega
          clear hv
          go_wp2
          go_ret
          rw [hno.out]
          exact ⟨rfl, rfl⟩
        · have h33i : decide ((c0.toNat : Int) < 33) = false := decide_eq_false (by omega)
          have h126 : (126 : Int) < (c0.toNat : Int) := by
            unfold visC at hv
            rw [decide_eq_true (show 32 < c0.toNat by omega), Bool.true_and, decide_eq_false_iff_not] at hv
            omega
          clear hv
          go_wp2
          go_ret
          rw [hno.out]
          exact ⟨rfl, rfl⟩
      · have hin2 := Lib.hid (vis_take_step hlt hin.out hv)
        have h33i : decide (((l.getD k 0).toNat : Int) < 33) = false := by
          unfold visC at hv
          simp only [Bool.and_eq_true, decide_eq_true_eq] at hv
          exact decide_eq_false (by omega)
        have h126 : decide ((126 : Int) < ((l.getD k 0).toNat : Int)) = false := by
          unfold visC at hv
          simp only [Bool.and_eq_true, decide_eq_true_eq] at hv
          exact decide_eq_false (by omega)
        clear hv hin
        generalize l.getD k 0 = c0 at *
        go_wp2
        go_round
        case rel => exact ⟨k + 1, by go_num, by omega, hin2⟩
        case measure => simp [intOf]; omega
    · obtain rfl : k = l.length := by omega
      have hfin := Lib.hid (show visB l = true by have := hin.out; rwa [List.take_length] at this)
      clear hin
      go_wp2
      go_ret
      rw [hfin.out]
      exact ⟨rfl, rfl⟩

theorem findL_has {q : List UInt8} {c : UInt8} : (0 ≤ findL q c ∧ q.contains c = true) ∨ (findL q c = -1 ∧ q.contains c = false) := by
  unfold findL
  cases h : cutL q c with
  | none => exact .inr ⟨rfl, by have := cut_none_iff.1 h; simpa using this⟩
  | some p =>
    obtain ⟨_, _, _, h4, _⟩ := cut_some h
    refine .inl ⟨by simp, ?_⟩
    rw [h4]; simp
theorem findAny_at {l q : List UInt8} {k : Nat} (h : ∀ j, j < k → q.contains (l.getD j 0) = false) (hk : k < l.length) (hc : q.contains (l.getD k 0) = true) : findAny l q = k := by
  have e : l = l.take k ++ (l.getD k 0 :: l.drop (k + 1)) := by rw [← drop_getD l k hk, List.take_append_drop]
  have ha : ∀ b ∈ l.take k, q.contains b = false := by
    intro b hb
    obtain ⟨j, hj, rfl⟩ := List.getElem_of_mem hb
    have hj' : j < k := by simp at hj; omega
    have := h j hj'
    rw [List.getD_eq_getElem?_getD, List.getElem?_eq_getElem (by omega)] at this
    simpa using this
  conv => lhs; rw [e]
  rw [findAny_app ha, findAny_hit hc, List.length_take]
  omega
theorem findAny_no {l q : List UInt8} (h : ∀ j, j < l.length → q.contains (l.getD j 0) = false) : findAny l q = l.length := by
  rw [findAny_all]
  intro b hb
  obtain ⟨j, hj, rfl⟩ := List.getElem_of_mem hb
  have := h j hj
  rw [List.getD_eq_getElem?_getD, List.getElem?_eq_getElem hj] at this
  simpa using this

set_option maxHeartbeats 1000000 in
theorem rfind_any (l q : List UInt8) (w : World) (hl : l.length ≤ maxLen) (hq : q.length ≤ maxLen) :
    Calls Try.prog 53 #[.string (S l), .string (S q)] w fun e w' => e = .returned (.int .i64 (findAny l q)) ∧ w = w' := by
  have hqz : (S q).size ≤ maxLen := by rw [S_size]; exact hq
  unfold maxLen at hl
  go_enter Try.func53, Try.ntmps53
  go_wp2
  go_loop [5] (fun i => ∃ k : Nat, i = .int .i64 k ∧ k ≤ l.length ∧ Hid (∀ j, j < k → q.contains (l.getD j 0) = false)) (fun i => l.length - (intOf i).toNat)
  case atStart => exact ⟨0, rfl, by omega, Lib.hid (fun j hj => absurd hj (by omega))⟩
  case round =>
    obtain ⟨k, rfl, hk, hin⟩ := hrel
    by_cases hlt : k < l.length
    · have hki : (k : Int) < l.length := by omega
      have hg : ∀ h, (S l)[k]'h = l.getD k 0 := fun h => by rw [get_l _ _ h, S_toList]
      rcases findL_has (q := q) (c := l.getD k 0) with ⟨h1, h2⟩ | ⟨h1, h2⟩
      · have hT := Lib.hid (findAny_at hin.out hlt h2)
        clear hin h2
        generalize l.getD k 0 = c0 at *
        go_wp2_with fail
        refine (refFind_any (S q) c0 _ hqz).mono ?_
        rintro e w3 ⟨rfl, rfl⟩
        rw [S_toList]
        generalize findL q c0 = n at *
        go_wp2
        go_ret
        rw [hT.out]
        exact ⟨rfl, rfl⟩
      · have hin2 := Lib.hid (all_step (p := fun j => q.contains (l.getD j 0) = false) hin.out h2)
        have hH := Lib.hid h1
        clear hin h2 h1
        generalize l.getD k 0 = c0 at *
        go_wp2_with fail
        refine (refFind_any (S q) c0 _ hqz).mono ?_
        rintro e w3 ⟨rfl, rfl⟩
        rw [S_toList, hH.out]
        go_wp2
        go_round
        case rel => exact ⟨k + 1, by go_num, by omega, hin2⟩
        case measure => simp [intOf]; omega
    · obtain rfl : k = l.length := by omega
      have hT := Lib.hid (findAny_no hin.out)
      clear hin
      go_wp2
      go_ret
      rw [hT.out]
      exact ⟨rfl, rfl⟩

theorem word_hit {l : List UInt8} {k : Nat} (hk : k + 3 ≤ l.length) (h : ∀ j, j < k → ((l.drop j).take 3 == [58, 47, 47]) = false) (hh : ((l.drop k).take 3 == [58, 47, 47]) = true) : wordI l = k := by
  refine Lib.index_first (by omega) ?_ fun j hj => ?_
  · rw [Lib.occAt_iff_take _ _ _ hk]; exact hh
  · rw [Lib.occAt_iff_take _ _ _ (by simp; omega)]; exact h j hj
theorem word_none {l : List UInt8} {k : Nat} (hk : l.length < k + 3) (h : ∀ j, j < k → ((l.drop j).take 3 == [58, 47, 47]) = false) : wordI l = -1 := by
  refine Lib.index_none fun j hj => ?_
  cases ho : Lib.occAt l [58, 47, 47] j with
  | false => rfl
  | true =>
    rcases Lib.occAt_room ho with h1 | h1
    · have h1' : j + 3 ≤ l.length := h1
      rw [Lib.occAt_iff_take _ _ _ h1] at ho
      have := h j (by omega)
      rw [show ([58, 47, 47] : List UInt8).length = 3 from rfl] at ho
      rw [ho] at this
      cases this
    · cases h1

set_option maxHeartbeats 1000000 in
theorem rword_any (l : List UInt8) (w : World) (hl : l.length ≤ 4294967280) :
    Calls Try.prog 50 #[.string (S l)] w fun e w' => e = .returned (.int .i64 (wordI l)) ∧ w = w' := by
  go_enter Try.func50, Try.ntmps50
  go_wp2
  go_loop [3] (fun i => ∃ k : Nat, i = .int .i64 k ∧ k ≤ l.length ∧ Hid (∀ j, j < k → ((l.drop j).take 3 == [58, 47, 47]) = false)) (fun i => l.length - (intOf i).toNat)
  case atStart => exact ⟨0, rfl, by omega, Lib.hid (fun j hj => absurd hj (by omega))⟩
  case round =>
    obtain ⟨k, rfl, hk, hin⟩ := hrel
    by_cases hlt : k + 3 ≤ l.length
    · have hki : (k : Int) + 3 ≤ l.length := by omega
      have hx : (S l).extract k (k + 3) = S ((l.drop k).take 3) := by rw [extract_S, S_toList, show k + 3 - k = 3 by omega]
      cases hq : ((l.drop k).take 3 == [58, 47, 47])
      · have hin2 := Lib.hid (all_step (p := fun j => ((l.drop j).take 3 == [58, 47, 47]) = false) hin.out hq)
        clear hin
        generalize (l.drop k).take 3 = c0 at *
        go_wp2
        go_round
        case rel => exact ⟨k + 1, by go_num, by omega, hin2⟩
        case measure => simp [intOf]; omega
      · have hT := Lib.hid (word_hit hlt hin.out hq)
        clear hin
        generalize (l.drop k).take 3 = c0 at *
        go_wp2
        go_ret
        rw [hT.out]
        exact ⟨rfl, rfl⟩
    · have hT := Lib.hid (word_none (by omega) hin.out)
      have hki : (l.length : Int) < (k : Int) + 3 := by omega
      clear hin
      go_wp2
      go_ret
      rw [hT.out]
      exact ⟨rfl, rfl⟩
end Go.Proofs.Ytbijphfendaddaa
