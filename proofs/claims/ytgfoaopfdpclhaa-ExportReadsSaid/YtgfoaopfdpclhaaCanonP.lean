/-
  Plain laws: the signs of canonical texts; a canonical text is its own canonical text.
-/
import Derived.Test.YtgfoaopfdpclhaaUp
import Derived.Test.YtgfoaopfdpclhaaHost4
namespace Go.Proofs.Ytgfoaopfdpclhaa
open Go.RowKit
set_option linter.unusedVariables false

/-- Are all bytes from 33 to 126? -/
def visC (c : UInt8) : Bool := decide (32 < c.toNat) && decide (c.toNat < 127)
def visB (l : List UInt8) : Bool := l.all visC
theorem lowerL_len (l : List UInt8) : (lowerL l).length = l.length := by unfold lowerL; simp
theorem canon_eq {l : List UInt8} : canonT l = if canonB (lowerL l) then (lowerL l, 0) else ([], if 256 < l.length then 3 else 1) := by
  unfold canonT canonB
  by_cases h : 256 < l.length
  · have hn : nameB (lowerL l) = false := by
      unfold nameB
      rw [lowerL_len, decide_eq_false (by omega)]
      rfl
    rw [if_pos h, hn, lowerL_len, decide_eq_false (by omega), if_pos h]
    simp
  · rw [if_neg h, if_neg h, lowerL_len, decide_eq_true (by omega), Bool.and_true]
theorem split_mem {l : List UInt8} {c x : UInt8} (h : x ∈ l) : x = c ∨ ∃ p ∈ splitL l c, x ∈ p := by
  induction l with
  | nil => cases h
  | cons y r ih =>
    by_cases hy : (y == c) = true
    · rw [split_hit r hy]
      rcases List.mem_cons.1 h with e | e
      · exact .inl (by rw [e]; simpa using hy)
      · rcases ih e with h1 | ⟨p, hp, hx⟩
        · exact .inl h1
        · exact .inr ⟨p, List.mem_cons_of_mem _ hp, hx⟩
    · rw [split_miss r hy]
      cases hr : splitL r c with
      | nil => exact absurd hr (split_ne r c)
      | cons a t =>
        rw [hr] at ih
        rcases List.mem_cons.1 h with e | e
        · exact .inr ⟨y :: a, List.mem_cons_self, by rw [e]; exact List.mem_cons_self⟩
        · rcases ih e with h1 | ⟨p, hp, hx⟩
          · exact .inl h1
          · rcases List.mem_cons.1 hp with e2 | e2
            · exact .inr ⟨y :: a, List.mem_cons_self, by rw [← e2]; exact List.mem_cons_of_mem _ hx⟩
            · exact .inr ⟨p, List.mem_cons_of_mem _ e2, hx⟩

/-- The signs of names, and of all canonical texts. -/
def nmC (c : UInt8) : Bool := decide ((97 ≤ c.toNat ∧ c.toNat ≤ 122) ∨ (48 ≤ c.toNat ∧ c.toNat ≤ 57) ∨ c.toNat = 95 ∨ c.toNat = 45 ∨ c.toNat = 46)
def cnC (c : UInt8) : Bool := nmC c || hexB c || c == 91 || c == 93
theorem u8_of {c : UInt8} {n : Nat} (h : c.toNat = n) (hn : n < 256) : c = UInt8.ofNat n := by
  apply UInt8.toNat_inj.1
  rw [h]; simp; omega
theorem nmC_of {c : UInt8} (h : nmC c = true) : lowC c = c ∧ visC c = true ∧ c ≠ 58 ∧ c ≠ 91 ∧ ([47, 63, 35] : List UInt8).contains c = false ∧ digitB c = digitB c := by
  unfold nmC at h
  rw [decide_eq_true_iff] at h
  refine ⟨lowC_no (by omega), by unfold visC; rw [decide_eq_true (by omega), decide_eq_true (by omega)]; rfl, ?_, ?_, ?_, rfl⟩
  · rintro rfl; revert h; decide
  · rintro rfl; revert h; decide
  · rw [Bool.eq_false_iff]
    intro hc
    simp at hc
    rcases hc with rfl | rfl | rfl <;> (revert h; decide)
theorem hex_of {c : UInt8} (h : hexB c = true) : lowC c = c ∧ visC c = true ∧ c ≠ 93 ∧ ([47, 63, 35] : List UInt8).contains c = false := by
  unfold hexB at h
  rw [decide_eq_true_iff] at h
  refine ⟨lowC_no (by omega), by unfold visC; rw [decide_eq_true (by omega), decide_eq_true (by omega)]; rfl, ?_, ?_⟩
  · rintro rfl; revert h; decide
  · rw [Bool.eq_false_iff]
    intro hc
    simp at hc
    rcases hc with rfl | rfl | rfl <;> (revert h; decide)
theorem label_signs {l : List UInt8} (h : labelB l = true) : l ≠ [] ∧ ∀ c ∈ l, nmC c = true := by
  unfold labelB at h
  simp only [Bool.and_eq_true, Bool.not_eq_true', List.isEmpty_eq_false_iff, decide_eq_true_eq, List.all_eq_true, List.mem_range] at h
  refine ⟨h.1.1, fun c hc => ?_⟩
  obtain ⟨j, hj, rfl⟩ := List.getElem_of_mem hc
  have := h.2 j hj
  rw [List.getD_eq_getElem?_getD, List.getElem?_eq_getElem hj] at this
  simp only [Option.getD_some] at this
  unfold signB at this
  unfold nmC
  rw [decide_eq_true_iff]
  split at this
  · omega
  · rw [decide_eq_true_iff] at this; omega
theorem part_signs {p : List UInt8} (h : partB p = true) : p ≠ [] ∧ ∀ c ∈ p, nmC c = true := by
  unfold partB at h
  simp only [Bool.and_eq_true, Bool.not_eq_true', List.isEmpty_eq_false_iff, decide_eq_false_iff_not] at h
  refine ⟨h.1.1.1, fun c hc => ?_⟩
  obtain ⟨j, hj, rfl⟩ := List.getElem_of_mem hc
  have hd := digN_all p j (by omega)
  rw [List.getD_eq_getElem?_getD, List.getElem?_eq_getElem hj] at hd
  simp only [Option.getD_some] at hd
  unfold digitB at hd
  unfold nmC
  rw [decide_eq_true_iff] at hd ⊢
  omega
theorem parts_signs {l : List UInt8} {f : List UInt8 → Bool} (hf : ∀ p, f p = true → p ≠ [] ∧ ∀ c ∈ p, nmC c = true) (h : (splitL l 46).all f = true) : l ≠ [] ∧ ∀ c ∈ l, nmC c = true := by
  rw [List.all_eq_true] at h
  constructor
  · rintro rfl
    exact (hf _ (h [] (by simp [splitL]))).1 rfl
  · intro c hc
    rcases split_mem (c := 46) hc with rfl | ⟨p, hp, hx⟩
    · rfl
    · exact (hf p (h p hp)).2 c hx
/-- A canonical text: in brackets, or of the signs of names alone. -/
theorem canon_signs {h : List UInt8} (hc : canonB h = true) : (∃ m, h = 91 :: (m ++ [93]) ∧ ∀ c ∈ m, hexB c = true) ∨ (h ≠ [] ∧ ∀ c ∈ h, nmC c = true) := by
  unfold canonB at hc
  rw [Bool.or_eq_true] at hc
  rcases hc with hc | hc
  · unfold nameB at hc
    simp only [Bool.and_eq_true] at hc
    exact .inr (parts_signs (fun p hp => label_signs hp) hc.2)
  · unfold addrB at hc
    simp only [Bool.and_eq_true, Bool.or_eq_true] at hc
    rcases hc.1 with hf | hb
    · unfold fourB at hf
      simp only [Bool.and_eq_true] at hf
      exact .inr (parts_signs (fun p hp => part_signs hp) hf.2)
    · left
      unfold bracketB at hb
      simp only [Bool.and_eq_true, decide_eq_true_eq, beq_iff_eq, List.all_eq_true] at hb
      obtain ⟨⟨⟨⟨h1, h2⟩, h3⟩, h4⟩, h5⟩ := hb
      refine ⟨(h.drop 1).take (h.length - 2), ?_, h5⟩
      apply List.ext_getElem
      · simp; omega
      · intro i hi1 hi2
        have hg : ∀ k (hk : k < h.length), h[k] = h.getD k 0 := fun k hk => by rw [List.getD_eq_getElem?_getD, List.getElem?_eq_getElem hk]; rfl
        rcases Nat.eq_zero_or_pos i with rfl | hi
        · rw [hg 0 hi1, h3]; rfl
        · obtain ⟨j, rfl⟩ : ∃ j, i = j + 1 := ⟨i - 1, by omega⟩
          rw [List.getElem_cons_succ]
          by_cases hj : j < h.length - 2
          · rw [List.getElem_append_left (by simp; omega)]
            simp
          · have e : j + 1 = h.length - 1 := by omega
            rw [List.getElem_append_right (by simp; omega), hg _ hi1, e, h4]
            simp
theorem canon_cn {h : List UInt8} (hc : canonB h = true) : h ≠ [] ∧ lowerL h = h ∧ visB h = true ∧ ∀ c ∈ h, ([47, 63, 35] : List UInt8).contains c = false := by
  have key : h ≠ [] ∧ ∀ c ∈ h, lowC c = c ∧ visC c = true ∧ ([47, 63, 35] : List UInt8).contains c = false := by
    rcases canon_signs hc with ⟨m, rfl, hm⟩ | ⟨h1, h2⟩
    · refine ⟨by simp, fun c hcm => ?_⟩
      simp only [List.mem_cons, List.mem_append, List.not_mem_nil, or_false] at hcm
      rcases hcm with rfl | hcm | rfl
      · decide
      · have := hex_of (hm c hcm)
        exact ⟨this.1, this.2.1, this.2.2.2⟩
      · decide
    · refine ⟨h1, fun c hcm => ?_⟩
      have := nmC_of (h2 c hcm)
      exact ⟨this.1, this.2.1, this.2.2.2.2.1⟩
  refine ⟨key.1, ?_, ?_, fun c hcm => (key.2 c hcm).2.2⟩
  · unfold lowerL
    rw [show h.map lowC = h.map id from List.map_congr_left fun c hcm => (key.2 c hcm).1, List.map_id]
  · unfold visB
    rw [List.all_eq_true]
    exact fun c hcm => (key.2 c hcm).2.1
theorem canonT_of {h : List UInt8} (hc : canonB h = true) : canonT h = (h, 0) := by
  rw [canon_eq, (canon_cn hc).2.1, hc]; rfl
theorem canonT_not {h : List UInt8} (hc : canonB h = false) : (canonT h).2 ≠ 0 ∨ ((canonT h).2 = 0 ∧ (canonT h).1 ≠ h) := by
  rw [canon_eq]
  cases hl : canonB (lowerL h)
  · left
    show (if 256 < h.length then (3 : Int) else 1) ≠ 0
    split <;> decide
  · right
    refine ⟨rfl, fun e => ?_⟩
    have e' : lowerL h = h := e
    rw [e'] at hl
    rw [hc] at hl
    cases hl

end Go.Proofs.Ytgfoaopfdpclhaa
