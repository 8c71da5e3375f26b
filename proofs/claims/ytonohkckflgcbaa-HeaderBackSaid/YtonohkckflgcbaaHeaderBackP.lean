/-
  A header that is parted is printed as a text that is parted so: the plain law.
-/
import Derived.Test.YtonohkckflgcbaaHeader8
namespace Go.Proofs.Ytonohkckflgcbaa
open Go.RowKit
set_option linter.unusedVariables false

theorem cut_app {c : UInt8} {x r : List UInt8} (h : c ∉ x) : cutL (x ++ c :: r) c = some (x, r) := by
  induction x with
  | nil => simp [cutL]
  | cons a x ih =>
    simp only [List.mem_cons, not_or] at h
    have := ih h.2
    rw [List.cons_append, cutL, if_neg (by simpa using fun e => h.1 e.symm), this]; rfl
theorem split_app {c : UInt8} {x r : List UInt8} (h : c ∉ x) : splitL (x ++ c :: r) c = x :: splitL r c := by rw [split_cut, cut_app h]
theorem split_one {c : UInt8} {x : List UInt8} (h : c ∉ x) : splitL x c = [x] := by rw [split_cut, cut_none_iff.2 h]
theorem split_in (l : List UInt8) (c : UInt8) : ∀ x ∈ splitL l c, c ∉ x ∧ ∀ b ∈ x, b ∈ l := by
  induction hn : l.length using Nat.strongRecOn generalizing l with
  | ind n ih =>
    intro x hx
    rw [split_cut] at hx
    cases hc : cutL l c with
    | none =>
      rw [hc] at hx
      simp only [List.mem_singleton] at hx
      subst hx
      exact ⟨cut_none_iff.1 hc, fun b hb => hb⟩
    | some p =>
      rw [hc] at hx
      obtain ⟨h1, h2, h3, h4, h5⟩ := cut_some hc
      simp only [List.mem_cons] at hx
      rcases hx with rfl | hx
      · exact ⟨h5, fun b hb => by rw [h4]; simp [hb]⟩
      · have := ih p.2.length (by rw [← hn, h4]; simp; omega) p.2 rfl x hx
        exact ⟨this.1, fun b hb => by rw [h4]; simp [this.2 b hb]⟩

theorem dropWhile_twice {α : Type} (p : α → Bool) (l : List α) : (l.dropWhile p).dropWhile p = l.dropWhile p := by
  induction l with
  | nil => rfl
  | cons a r ih =>
    by_cases h : p a = true
    · rw [List.dropWhile_cons_of_pos h, ih]
    · rw [List.dropWhile_cons_of_neg h, List.dropWhile_cons_of_neg h]
theorem ltrim_mem {l : List UInt8} {b : UInt8} (h : b ∈ ltrim l) : b ∈ l := (List.dropWhile_sublist _).subset h
theorem rtrim_mem {l : List UInt8} {b : UInt8} (h : b ∈ rtrim l) : b ∈ l := by
  unfold rtrim at h
  rw [List.mem_reverse] at h
  have := (List.dropWhile_sublist _).subset h
  exact List.mem_reverse.1 this
theorem trimL_mem {l : List UInt8} {b : UInt8} (h : b ∈ trimL l) : b ∈ l := ltrim_mem (rtrim_mem h)
theorem ltrim_head (l : List UInt8) : (ltrim l).length = 0 ∨ blankB ((ltrim l).getD 0 0) = false := by
  unfold ltrim
  induction l with
  | nil => exact .inl rfl
  | cons a r ih =>
    by_cases h : blankB a = true
    · rw [List.dropWhile_cons_of_pos h]; exact ih
    · rw [List.dropWhile_cons_of_neg h]; exact .inr (by simpa using h)
theorem rtrim_prefix (l : List UInt8) : rtrim l <+: l := by
  unfold rtrim
  have : l.reverse.dropWhile blankB <:+ l.reverse := List.dropWhile_suffix _
  have := List.reverse_prefix.2 this
  rwa [List.reverse_reverse] at this
theorem trimL_twice (l : List UInt8) : trimL (trimL l) = trimL l := by
  unfold trimL
  have h1 : ltrim (rtrim (ltrim l)) = rtrim (ltrim l) := by
    apply ltrim_end
    rcases ltrim_head l with h | h
    · left
      have := (rtrim_prefix (ltrim l)).length_le
      omega
    · by_cases h0 : (rtrim (ltrim l)).length = 0
      · exact .inl h0
      · right
        obtain ⟨t, ht⟩ := rtrim_prefix (ltrim l)
        rw [← ht, List.getD_eq_getElem?_getD, List.getElem?_append_left (by omega)] at h
        rw [List.getD_eq_getElem?_getD]; exact h
  rw [h1]
  unfold rtrim
  rw [List.reverse_reverse, dropWhile_twice]
theorem trimL_blank (l : List UInt8) : trimL (32 :: l) = trimL l := by
  unfold trimL ltrim
  rw [List.dropWhile_cons_of_pos (by decide)]
/-- What a part of a header is read as. -/
def Good (a : List UInt8 × List UInt8) : Prop := trimL a.1 = a.1 ∧ trimL a.2 = a.2 ∧ 61 ∉ a.1
theorem pair_good (x : List UInt8) : Good (pairL x) := by
  unfold pairL Good
  cases hc : cutL x 61 with
  | none => exact ⟨trimL_twice _, rfl, fun h => cut_none_iff.1 hc (trimL_mem h)⟩
  | some p => exact ⟨trimL_twice _, trimL_twice _, fun h => (cut_some hc).2.2.2.2 (trimL_mem h)⟩
theorem pair_mem {x : List UInt8} {b : UInt8} (h : b ∈ (pairL x).1 ∨ b ∈ (pairL x).2) : b ∈ x := by
  unfold pairL at h
  cases hc : cutL x 61 with
  | none => rw [hc] at h; simp only [List.not_mem_nil, or_false] at h; exact trimL_mem h
  | some p =>
    rw [hc] at h
    rw [(cut_some hc).2.2.2.1]
    rcases h with h | h
    · simp [trimL_mem h]
    · simp [trimL_mem h]
def tailA (a : List UInt8 × List UInt8) : List UInt8 := 32 :: (a.1 ++ (if a.2.isEmpty then [] else 61 :: a.2))
theorem textA_tail (a : List UInt8 × List UInt8) : textA a = 59 :: tailA a := by unfold textA tailA; simp
theorem pair_tail {a : List UInt8 × List UInt8} (h : Good a) : pairL (tailA a) = a := by
  obtain ⟨h1, h2, h3⟩ := h
  unfold pairL tailA
  cases he : a.2.isEmpty
  · rw [if_neg (by decide), show (32 : UInt8) :: (a.1 ++ 61 :: a.2) = (32 :: a.1) ++ 61 :: a.2 from rfl, cut_app (by simp [h3])]
    simp only [trimL_blank, h1, h2]
  · rw [if_pos rfl, List.append_nil, cut_none_iff.2 (by simp [h3])]
    have : a.2 = [] := by simpa using he
    simp only [trimL_blank, h1, ← this]
theorem pair_head {a : List UInt8 × List UInt8} (h : Good a) : pairL (a.1 ++ [61] ++ a.2) = a ∧ hasEq (a.1 ++ [61] ++ a.2) = true := by
  obtain ⟨h1, h2, h3⟩ := h
  have e : a.1 ++ [61] ++ a.2 = a.1 ++ 61 :: a.2 := by simp
  rw [e]
  unfold pairL hasEq
  rw [cut_app h3]
  exact ⟨by simp only [h1, h2], rfl⟩
theorem split_text (h0 : List UInt8) (l : List (List UInt8 × List UInt8)) (h : 59 ∉ h0) (hl : ∀ a ∈ l, 59 ∉ tailA a) : splitL (h0 ++ l.flatMap textA) 59 = h0 :: l.map tailA := by
  induction l generalizing h0 with
  | nil => simp [split_one h]
  | cons a r ih =>
    rw [List.flatMap_cons, textA_tail, List.cons_append, split_app h, ih (tailA a) (hl a (by simp)) (fun b hb => hl b (by simp [hb]))]
    rfl
theorem tail_mem {a : List UInt8 × List UInt8} {b : UInt8} (h : b ∈ tailA a) : b = 32 ∨ b = 61 ∨ b ∈ a.1 ∨ b ∈ a.2 := by
  unfold tailA at h
  split at h
  · simp at h; rcases h with h | h <;> simp [h]
  · simp at h; rcases h with h | h | h | h <;> simp [h]

theorem back_ok {s : List UInt8} (h : parseE s = 0) (hlen : (textH (parseP s) (parseL s)).length ≤ 4096) : printOk (parseP s) (parseL s) = true := by
  have hP : parseP s = pairL ((splitL s 59).headD []) := by unfold parseP; rw [if_pos h]
  have hL : parseL s = (splitL s 59).tail.map pairL := by unfold parseL; rw [if_pos h]
  have hin := split_in s 59
  have hhead : (splitL s 59).headD [] ∈ splitL s 59 := by
    have := split_ne s 59
    cases hsp : splitL s 59 with
    | nil => exact absurd hsp this
    | cons a b => simp
  unfold parseE at h
  simp only at h
  rw [← hP] at h
  have hgP : Good (parseP s) := by rw [hP]; exact pair_good _
  have hmP : ∀ b, b ∈ (parseP s).1 ∨ b ∈ (parseP s).2 → b ∈ s ∧ b ≠ 59 := by
    intro b hb
    rw [hP] at hb
    have := pair_mem hb
    exact ⟨(hin _ hhead).2 b this, fun e => (hin _ hhead).1 (e ▸ this)⟩
  have hgL : ∀ a ∈ parseL s, Good a ∧ ∀ b, b ∈ a.1 ∨ b ∈ a.2 → b ∈ s ∧ b ≠ 59 := by
    intro a ha
    rw [hL] at ha
    obtain ⟨x, hx, rfl⟩ := List.mem_map.1 ha
    have hx' := List.mem_of_mem_tail hx
    refine ⟨pair_good _, fun b hb => ?_⟩
    have := pair_mem hb
    exact ⟨(hin _ hx').2 b this, fun e => (hin _ hx').1 (e ▸ this)⟩
  generalize parseP s = p at *
  generalize parseL s = l at *
  by_cases c1 : 4096 < s.length
  · rw [if_pos c1] at h; exact absurd h (by decide)
  rw [if_neg c1] at h
  by_cases c2 : (s.any ctlB || !hasEq ((splitL s 59).headD []) || p.1.isEmpty) = true
  · rw [if_pos c2] at h; exact absurd h (by decide)
  rw [if_neg c2] at h
  by_cases c3 : (decide (256 < p.1.length) || decide (1024 < p.2.length)) = true
  · rw [if_pos (by simpa using c3)] at h; exact absurd h (by decide)
  simp only [Bool.or_eq_true, not_or, Bool.not_eq_true, Bool.not_eq_true', Bool.not_eq_false', decide_eq_true_eq] at c2 c3
  obtain ⟨⟨c2a, c2b⟩, c2c⟩ := c2
  have hctl : ∀ b ∈ s, ctlB b = false := by
    intro b hb
    have := List.any_eq_false.1 c2a b hb
    simpa using this
  have h59 : (59 : UInt8) ∉ p.1 ++ [61] ++ p.2 := by
    intro hb
    simp only [List.mem_append, List.mem_singleton] at hb
    rcases hb with (hb | hb) | hb
    · exact (hmP 59 (.inl hb)).2 rfl
    · exact absurd hb (by decide)
    · exact (hmP 59 (.inr hb)).2 rfl
  have h59l : ∀ a ∈ l, (59 : UInt8) ∉ tailA a := by
    intro a ha hb
    rcases tail_mem hb with hb | hb | hb | hb
    · exact absurd hb (by decide)
    · exact absurd hb (by decide)
    · exact ((hgL a ha).2 59 (.inl hb)).2 rfl
    · exact ((hgL a ha).2 59 (.inr hb)).2 rfl
  have hsp : splitL (textH p l) 59 = (p.1 ++ [61] ++ p.2) :: l.map tailA := split_text _ l h59 h59l
  have hany : (textH p l).any ctlB = false := by
    rw [List.any_eq_false]
    intro b hb
    unfold textH at hb
    simp only [List.mem_append, List.mem_singleton, List.mem_flatMap] at hb
    rcases hb with ((hb | hb) | hb) | ⟨a, ha, hb⟩
    · rw [hctl b (hmP b (.inl hb)).1]; decide
    · subst hb; decide
    · rw [hctl b (hmP b (.inr hb)).1]; decide
    · rw [textA_tail] at hb
      simp only [List.mem_cons] at hb
      rcases hb with hb | hb
      · subst hb; decide
      · rcases tail_mem hb with hb | hb | hb | hb
        · subst hb; decide
        · subst hb; decide
        · rw [hctl b ((hgL a ha).2 b (.inl hb)).1]; decide
        · rw [hctl b ((hgL a ha).2 b (.inr hb)).1]; decide
  obtain ⟨g1, g2⟩ := pair_head hgP
  have hE : parseE (textH p l) = 0 := by
    have hh : (splitL (textH p l) 59).headD [] = p.1 ++ [61] ++ p.2 := by rw [hsp]; rfl
    have c3a : decide (256 < p.1.length) = false := decide_eq_false c3.1
    have c3b : decide (1024 < p.2.length) = false := decide_eq_false c3.2
    have c4 : ¬ 4096 < (textH p l).length := by omega
    unfold parseE
    simp only [hh, g1, hany, g2, c2c, c3a, c3b]
    rw [if_neg c4]
    rfl
  unfold printOk
  rw [decide_eq_true hE]
  have e1 : parseP (textH p l) = p := by unfold parseP; rw [if_pos hE, hsp]; exact g1
  have e2 : parseL (textH p l) = l := by
    unfold parseL
    rw [if_pos hE, hsp, List.tail_cons, List.map_map]
    conv => rhs; rw [← List.map_id l]
    apply List.map_congr_left
    intro a ha
    exact pair_tail (hgL a ha).1
  rw [decide_eq_true e1, decide_eq_true e2]
  rfl
end Go.Proofs.Ytonohkckflgcbaa
