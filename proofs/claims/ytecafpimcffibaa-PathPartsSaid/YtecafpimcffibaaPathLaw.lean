/-
  The laws of layer 11, walked: each answers true at every input.
-/
import Derived.Test.YtecafpimcffibaaPath
namespace Go.Proofs.Ytecafpimcffibaa
open Go.RowKit
set_option linter.unusedVariables false

theorem lastTo_none {l : List UInt8} {c : UInt8} {k : Nat} (h : lastTo l c k = -1) {i : Nat} (hi : i < k) : (l.getD i 0 == c) = false := by
  cases hb : (l.getD i 0 == c)
  · rfl
  · have := lastTo_ge hb hi
    omega
theorem lastTo_at {l : List UInt8} {c : UInt8} {k : Nat} {i : Nat} (h : lastTo l c k = i) : i < k ∧ (l.getD i 0 == c) = true := by
  induction k with
  | zero => unfold lastTo at h; omega
  | succ k ih =>
    unfold lastTo at h
    split at h
    · rename_i hk
      have : i = k := by omega
      subst this
      exact ⟨by omega, hk⟩
    · obtain ⟨a, b⟩ := ih h
      exact ⟨by omega, b⟩
theorem hasPrefix_one (l : List UInt8) (c : UInt8) : Lib.hasPrefix l [c] = (decide (0 < l.length) && l.getD 0 0 == c) := by
  cases l with
  | nil => rfl
  | cons x l =>
    simp only [Lib.hasPrefix, List.isPrefixOf, List.getD_cons_zero, List.length_cons]
    rw [Bool.eq_iff_iff]
    simp only [Bool.and_true, beq_iff_eq, Bool.and_eq_true, decide_eq_true_eq]
    exact ⟨fun h => ⟨by omega, h.symm⟩, fun h => h.2.symm⟩
theorem dirOf_ref (l : List UInt8) : refDir l = dirOf l := by
  unfold refDir dirOf
  rw [hasPrefix_one]
  have hb := lastTo_lt l 47 l.length
  by_cases h1 : (l.getD 0 0 == 47) = true
  · by_cases h0 : 0 < l.length
    · have := lastTo_ge h1 h0
      have e : (decide (0 < l.length) && l.getD 0 0 == 47) = true := by rw [h1]; simpa using h0
      rw [e, h1]
      by_cases h2 : lastTo l 47 l.length = 0
      · rw [h2]; rfl
      · rw [if_neg (by simp; omega), if_neg (by simp; omega)]
    · have : l = [] := by cases l <;> simp_all
      subst this
      rfl
  · have h1' : (l.getD 0 0 == 47) = false := by simpa using h1
    rw [h1', Bool.and_false, if_pos (Or.inr rfl), if_pos (Or.inl rfl)]

theorem hasPrefix_iff {p c : List UInt8} : Lib.hasPrefix p c = true ↔ c <+: p := by simp [Lib.hasPrefix]
theorem hasSuffix_iff {p c : List UInt8} : Lib.hasSuffix p c = true ↔ c <:+ p := by simp [Lib.hasSuffix]

theorem fit_dir (l : List UInt8) (h : Lib.hasPrefix l [47] = true) : fitB l (dirOf l) = true := by
  unfold dirOf
  rw [h]
  by_cases h2 : lastTo l 47 l.length = 0
  · rw [if_pos (Or.inr h2)]
    unfold fitB
    rw [h]
    simp [Lib.hasSuffix]
  · rw [if_neg (by simpa using h2)]
    obtain ⟨h0, h1⟩ := hasPrefix_get h
    have h3 := lastTo_ge h1 h0
    obtain ⟨i, hi⟩ : ∃ i : Nat, lastTo l 47 l.length = i := ⟨_, (Int.toNat_of_nonneg h3).symm⟩
    rw [hi]
    obtain ⟨h4, h5⟩ := lastTo_at hi
    unfold fitB
    have e1 : Lib.hasPrefix l (l.take i) = true := hasPrefix_iff.2 (List.take_prefix _ _)
    have e2 : (l.take i).length = i := by simp; omega
    simp only [Int.toNat_natCast]
    rw [e1, e2, h5]
    simp

theorem fit_trans (a b c : List UInt8) (h1 : fitB a b = true) (h2 : fitB b c = true) : fitB a c = true := by
  unfold fitB at *
  simp only [Bool.or_eq_true, Bool.and_eq_true, beq_iff_eq] at *
  rcases h1 with rfl | ⟨p1, q1⟩
  · exact h2
  · rcases h2 with rfl | ⟨p2, q2⟩
    · exact Or.inr ⟨p1, q1⟩
    · refine Or.inr ⟨hasPrefix_iff.2 ((hasPrefix_iff.1 p2).trans (hasPrefix_iff.1 p1)), ?_⟩
      rcases q2 with q2 | q2
      · exact Or.inl q2
      · refine Or.inr ?_
        obtain ⟨t, ht⟩ := hasPrefix_iff.1 p1
        rcases Nat.lt_or_ge c.length b.length with hl | hl
        · rw [← ht, List.getD_eq_getElem?_getD, List.getElem?_append_left hl, ← List.getD_eq_getElem?_getD]; exact q2
        · rw [List.getD_eq_getElem?_getD, List.getElem?_eq_none hl] at q2
          exact absurd q2 (by decide)
theorem fit_refl (a : List UInt8) : fitB a a = true := by unfold fitB; simp

theorem refFit_eq (p c : List UInt8) : refFit p c = fitB p c := by
  unfold refFit fitB
  by_cases hpre : Lib.hasPrefix p c = true
  · obtain ⟨t, rfl⟩ := hasPrefix_iff.1 hpre
    rw [hpre]
    rw [if_neg (by simp), List.take_left]
    rw [if_neg (by simp)]
    cases t with
    | nil => simp
    | cons x t =>
      rw [if_neg (by simp)]
      have e : (c ++ x :: t == c) = false := by simp
      rw [e]
      simp only [Bool.false_or, Bool.true_and]
      congr 1
      rw [Bool.eq_iff_iff, hasSuffix_iff]
      simp only [Bool.and_eq_true, decide_eq_true_eq, beq_iff_eq]
      constructor
      · rintro ⟨h0, h1⟩
        refine ⟨c.take (c.length - 1), ?_⟩
        have := take_succ_getD c (c.length - 1) (by omega)
        rw [h1, show c.length - 1 + 1 = c.length by omega, List.take_length] at this
        exact this.symm
      · rintro ⟨u, rfl⟩
        simp
  · have hpre' : Lib.hasPrefix p c = false := by simpa using hpre
    have e1 : (p == c) = false := by
      rw [beq_eq_false_iff_ne]
      rintro rfl
      exact hpre (hasPrefix_iff.2 (List.prefix_refl _))
    rw [hpre', e1]
    by_cases h1 : p.length < c.length
    · rw [if_pos h1]; rfl
    · rw [if_neg h1, if_pos]
      · rfl
      · have : ¬ (p.take c.length = c) := fun e => hpre (hasPrefix_iff.2 (e ▸ List.take_prefix _ _))
        simpa using this

set_option maxHeartbeats 400000 in
theorem awake11 (w : World) :
    Calls Try.prog 11 #[] w fun e w' => e = .returned (.bool true) ∧ w = w' := by
  have e1 : dirOf [47, 97, 47, 98] = [47, 97] := by decide
  have e2 : fitB [47, 97, 47, 98] [47, 97] = true := by decide
  have e3 : fitB [47, 97, 98] [47, 97] = false := by decide
  have e4 : countTo [47, 97, 47, 98] 47 4 = 2 := by decide
  go_enter Try.func11, Try.ntmps11
  go_wp2_with (first
    | (go_at_call 12; refine (default_any _ _ (by decide)).mono ?_; rintro e w' ⟨rfl, rfl⟩)
    | (go_at_call 15; refine (match_any _ _ _ (by decide) (by decide)).mono ?_; rintro e w' ⟨rfl, rfl⟩)
    | (go_at_call 14; refine (depth_any _ _ (by decide)).mono ?_; rintro e w' ⟨rfl, rfl⟩))
  go_ret
  exact ⟨rfl, rfl⟩

set_option maxHeartbeats 1000000 in
theorem pathMatches (s t : ByteArray) (w : World) (hs : s.size ≤ maxLen) (ht : t.size ≤ maxLen) :
    Calls Try.prog 4 #[.string s, .string t] w fun e w' => e = .returned (.bool true) ∧ Below w.heap.size w w' := by
  have hs' := hs
  have ht' := ht
  unfold maxLen at hs' ht'
  have e1 := fit_refl s.toList
  have e2 := refFit_eq s.toList t.toList
  go_enter Try.func4, Try.ntmps4
  go_wp2_with (first
    | (go_at_call 11; refine (awake11 _).mono ?_; rintro e w' ⟨rfl, rfl⟩)
    | (go_at_call 15; refine (match_any _ _ _ (by assumption) (by assumption)).mono ?_; rintro e w' ⟨rfl, rfl⟩)
    | (go_at_call 16; refine (refMatch_any _ _ _ hs ht).mono ?_; rintro e w' ⟨rfl, rfl⟩))
  all_goals (go_ret; exact ⟨rfl, Below.refl _ _⟩)

set_option maxHeartbeats 1000000 in
theorem pathOrders (s t u : ByteArray) (w : World) (hs : s.size ≤ maxLen) (ht : t.size ≤ maxLen) (hu : u.size ≤ maxLen) :
    Calls Try.prog 5 #[.string s, .string t, .string u] w fun e w' => e = .returned (.bool true) ∧ Below w.heap.size w w' := by
  have hs' := hs
  have ht' := ht
  have hu' := hu
  unfold maxLen at hs' ht' hu'
  go_enter Try.func5, Try.ntmps5
  go_wp2_with (first
    | (go_at_call 11; refine (awake11 _).mono ?_; rintro e w' ⟨rfl, rfl⟩)
    | (go_at_call 15; refine (match_any _ _ _ (by assumption) (by assumption)).mono ?_; rintro e w' ⟨rfl, rfl⟩))
  all_goals first
    | (go_ret; exact ⟨rfl, Below.refl _ _⟩)
    | exact absurd (fit_trans _ _ _ ‹fitB s.toList t.toList = true› ‹fitB t.toList u.toList = true›) ‹¬fitB s.toList u.toList = true›

set_option maxHeartbeats 1000000 in
theorem pathDefaults (s : ByteArray) (w : World) (hs : s.size ≤ maxLen) :
    Calls Try.prog 3 #[.string s] w fun e w' => e = .returned (.bool true) ∧ Below w.heap.size w w' := by
  have hs' := hs
  unfold maxLen at hs'
  have e2 := dirOf_ref s.toList
  have hd : (dirOf s.toList).length ≤ maxLen := by
    unfold dirOf maxLen
    split
    · simp
    · have := List.length_take_le (lastTo s.toList 47 s.toList.length).toNat s.toList
      rw [size_toList] at hs'
      have h := List.length_take_le' (lastTo s.toList 47 s.toList.length).toNat s.toList
      omega
  by_cases hl : 500 < s.size
  · go_enter Try.func3, Try.ntmps3
    go_wp2_with (go_at_call 11; refine (awake11 _).mono ?_; rintro e w' ⟨rfl, rfl⟩)
    go_ret
    exact ⟨rfl, Below.refl _ _⟩
  go_enter Try.func3, Try.ntmps3
  go_wp2_with (go_at_call 12; refine (default_any _ _ hs).mono ?_; rintro e w' ⟨rfl, rfl⟩)
  go_loop [4, 5] (fun n i => ∃ k : Nat, k ≤ s.size ∧ i = .int .i64 k ∧ n = .int .i64 (countTo s.toList 47 k)) (fun _ i => s.size - (intOf i).toNat)
  case atStart => exact ⟨0, Nat.zero_le _, rfl, rfl⟩
  case round =>
    obtain ⟨k, hk, rfl, rfl⟩ := hrel
    have hc := countTo_le s.toList 47 k
    by_cases hlt : k < s.size
    · go_wp2
      · have h : ((s[k].toNat : Int) == 47) = true := by assumption
        rw [get_l] at h
        have h' := (u8_beq (s.toList.getD k 0) 47).symm.trans h
        go_round
        case rel => exact ⟨k + 1, by omega, by go_num, by rw [countTo_hit h']; go_num⟩
        case measure => simp [intOf]; omega
      · have h : ((s[k].toNat : Int) == 47) = false := by assumption
        rw [get_l] at h
        have h' := (u8_beq (s.toList.getD k 0) 47).symm.trans h
        go_round
        case rel => exact ⟨k + 1, by omega, by go_num, by rw [countTo_miss h']⟩
        case measure => simp [intOf]; omega
    · obtain rfl : k = s.size := by omega
      by_cases h0 : 0 < s.size
      · have h0i : ((0 : Int) < s.size) := by omega
        have hne : s.toList = [] → False := by intro h; rw [size_toList, h] at h0; exact absurd h0 (by decide)
        have he : s.toList.isEmpty = false := by cases h : s.toList <;> simp_all
        by_cases h1 : (s.toList.getD 0 0 == 47) = true
        · have hp : Lib.hasPrefix s.toList [47] = true := by rw [hasPrefix_one, h1, ← size_toList]; simpa using h0
          have hf := fit_dir s.toList hp
          have h3 : (((s[0].toNat : Int)) != 47) = false := by rw [get_l, nec 47 (i := 47) rfl, h1]; rfl
          clear h1 hp hne
          go_wp2_with (first
            | (go_at_call 11; refine (awake11 _).mono ?_; rintro e w' ⟨rfl, rfl⟩)
            | (go_at_call 15; refine (match_any _ _ _ hs (by rw [S_size]; exact hd)).mono ?_; rintro e w' ⟨rfl, rfl⟩)
            | (go_at_call 14; refine (depth_any _ _ hs).mono ?_; rintro e w' ⟨rfl, rfl⟩)
            | (go_at_call 13; refine (refDefault_any _ _ hs).mono ?_; rintro e w' ⟨rfl, rfl⟩))
          go_ret
          exact ⟨rfl, Below.refl _ _⟩
        · have h3 : (((s[0].toNat : Int)) != 47) = true := by rw [get_l, nec 47 (i := 47) rfl, Bool.eq_false_iff.2 h1]; rfl
          clear h1 hne
          go_wp2_with (first
            | (go_at_call 11; refine (awake11 _).mono ?_; rintro e w' ⟨rfl, rfl⟩)
            | (go_at_call 14; refine (depth_any _ _ hs).mono ?_; rintro e w' ⟨rfl, rfl⟩)
            | (go_at_call 13; refine (refDefault_any _ _ hs).mono ?_; rintro e w' ⟨rfl, rfl⟩))
          go_ret
          exact ⟨rfl, Below.refl _ _⟩
      · have he : s.toList.isEmpty = true := by
          cases h : s.toList with
          | nil => rfl
          | cons x l => rw [size_toList, h] at h0; simp at h0
        go_wp2_with (first
            | (go_at_call 11; refine (awake11 _).mono ?_; rintro e w' ⟨rfl, rfl⟩)
            | (go_at_call 14; refine (depth_any _ _ hs).mono ?_; rintro e w' ⟨rfl, rfl⟩)
            | (go_at_call 13; refine (refDefault_any _ _ hs).mono ?_; rintro e w' ⟨rfl, rfl⟩))
        go_ret
        exact ⟨rfl, Below.refl _ _⟩
end Go.Proofs.Ytecafpimcffibaa
