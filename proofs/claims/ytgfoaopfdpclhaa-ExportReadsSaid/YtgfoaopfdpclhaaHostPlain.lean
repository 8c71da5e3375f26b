/-
  The reference's hosts are the program's: plain laws.
-/
import Derived.Test.YtgfoaopfdpclhaaUp
import Derived.Test.YtgfoaopfdpclhaaHost5
namespace Go.Proofs.Ytgfoaopfdpclhaa
open Go.RowKit
set_option linter.unusedVariables false

def refSignB (c : UInt8) : Bool := decide ((97 ≤ c.toNat ∧ c.toNat ≤ 122) ∨ (48 ≤ c.toNat ∧ c.toNat ≤ 57) ∨ c.toNat = 45 ∨ c.toNat = 95)
def refLabelB (l : List UInt8) : Bool := decide (1 ≤ l.length) && decide (l.length ≤ 63) && !(l.getD 0 0 == 45) && !(l.getD (l.length - 1) 0 == 45) && (List.range l.length).all fun j => refSignB (l.getD j 0)
def refPartB (p : List UInt8) : Bool := decide (1 ≤ p.length) && decide (p.length ≤ 3) && decide (digN p = p.length) && decide (numV p ≤ 255) && textL (numV p) == p
def refFourB (s : List UInt8) : Bool := decide ((splitL s 46).length = 4) && (splitL s 46).all refPartB
def refNameB (s : List UInt8) : Bool := decide (s.length ≤ 256) && !refFourB s && (splitL s 46).all refLabelB
def refCanonB (s : List UInt8) : Bool := decide (s.length ≤ 256) && (refNameB s || addrB s)
def refMatchB (h d : List UInt8) : Bool := refCanonB h && refCanonB d && (h == d || (refNameB h && decide (d.length < h.length) && h.getD (h.length - d.length - 1) 0 == 46 && h.drop (h.length - d.length) == d))

theorem is45 (c : UInt8) : (c == 45) = decide (c.toNat = 45) := by
  rw [Bool.eq_iff_iff, beq_iff_eq, decide_eq_true_eq]
  constructor
  · rintro rfl; rfl
  · intro h; exact UInt8.toNat_inj.1 h
theorem refLabel_eq (l : List UInt8) : refLabelB l = labelB l := by
  unfold refLabelB labelB
  rcases Nat.eq_zero_or_pos l.length with h0 | h0
  · rw [List.eq_nil_of_length_eq_zero h0]; rfl
  have he : l.isEmpty = false := by cases l <;> simp_all
  rw [he, decide_eq_true (by omega : 1 ≤ l.length)]
  by_cases h1 : l.length ≤ 63
  case neg => rw [decide_eq_false h1]; rfl
  rw [decide_eq_true h1]
  rw [Bool.eq_iff_iff]
  simp only [Bool.true_and, Bool.and_eq_true, Bool.not_eq_true', Bool.not_false, range_all, is45, decide_eq_false_iff_not]
  constructor
  · rintro ⟨⟨ha, hb⟩, h⟩ j hj
    have h2 := h j hj
    unfold refSignB at h2
    simp only [decide_eq_true_eq] at h2
    unfold signB
    by_cases h45 : (l.getD j 0).toNat = 45
    · rw [if_pos h45]
      have hj0 : j ≠ 0 := by rintro rfl; exact ha h45
      have hj1 : j ≠ l.length - 1 := by rintro rfl; exact hb h45
      simp [hj0, hj1]
    · rw [if_neg h45]; exact decide_eq_true (by omega)
  · intro h
    refine ⟨⟨?_, ?_⟩, ?_⟩
    · intro h45
      have := h 0 h0
      unfold signB at this
      rw [if_pos h45] at this
      simp at this
    · intro h45
      have := h (l.length - 1) (by omega)
      unfold signB at this
      rw [if_pos h45] at this
      simp at this
    · intro j hj
      have := h j hj
      unfold signB at this
      unfold refSignB
      apply decide_eq_true
      by_cases h45 : (l.getD j 0).toNat = 45
      · omega
      · rw [if_neg h45] at this
        simp only [decide_eq_true_eq] at this
        omega
theorem refPart_eq (p : List UInt8) : refPartB p = partB p := by
  rw [Bool.eq_iff_iff]
  unfold refPartB partB
  simp only [Bool.and_eq_true, Bool.not_eq_true', decide_eq_true_eq, decide_eq_false_iff_not, beq_iff_eq, Bool.and_eq_false_iff]
  constructor
  · rintro ⟨⟨⟨⟨h1, h2⟩, h3⟩, h4⟩, h5⟩
    have hne : p ≠ [] := by rintro rfl; simp at h1
    have hv := numV_digits hne h3
    have hb := valTo_bd p p.length (fun j hj => digN_all _ _ (by omega))
    refine ⟨⟨⟨by cases p <;> simp_all, by omega⟩, by omega⟩, ?_⟩
    by_cases hl : 1 < p.length
    · right
      rw [textL_pos (by omega)] at h5
      have := upL_zero (numV p).toNat (by rw [h5]; exact hl)
      rwa [h5] at this
    · left; exact hl
  · rintro ⟨⟨⟨h1, h2⟩, h3⟩, h4⟩
    have hne : p ≠ [] := by rintro rfl; simp at h1
    have hd : digN p = p.length := by have := digN_le p; omega
    have hv := numV_digits hne hd
    have hb := valTo_bd p p.length (fun j hj => digN_all _ _ (by omega))
    have hu := up_valTo p hne (fun j hj => digN_all _ _ (by omega)) (fun h => by rcases h4 with h4 | h4; exact absurd h h4; exact h4) (by omega)
    have hl := upL_len (valTo p p.length).toNat 3 (by omega) (by omega)
    rw [hu] at hl
    have : 0 < p.length := List.length_pos_iff.2 hne
    refine ⟨⟨⟨⟨by omega, hl⟩, hd⟩, by omega⟩, ?_⟩
    rw [textL_pos (by omega), hv, hu]
theorem refFour_eq (s : List UInt8) : refFourB s = fourB s := by
  unfold refFourB fourB
  rw [show refPartB = partB from funext refPart_eq]
/-- What is in brackets is no labels. -/
theorem bracket_no (s : List UInt8) (h : bracketB s = true) : (splitL s 46).all labelB = false := by
  have h91 : (s.getD 0 0 == 91) = true := by
    unfold bracketB at h
    simp only [Bool.and_eq_true] at h
    exact h.1.1.2
  cases s with
  | nil => exact absurd h91 (by decide)
  | cons x r =>
    have hx : x = 91 := by simpa using h91
    subst hx
    rw [split_miss (c := 46) r (by decide)]
    have hbad : ∀ y, labelB (91 :: y) = false := by
      intro y
      unfold labelB
      rw [range_bad (k := 0) (by simp) (by rfl), Bool.and_false]
    cases splitL r 46 with
    | nil => simp [hbad]
    | cons a b => simp [hbad]
theorem refName_eq (s : List UInt8) : refNameB s = nameB s := by
  unfold refNameB nameB addrB
  rw [refFour_eq, show refLabelB = labelB from funext refLabel_eq]
  cases hb : bracketB s
  · rw [Bool.or_false]
  · rw [bracket_no s hb, Bool.and_false, Bool.and_false]
theorem refCanon_eq (s : List UInt8) : refCanonB s = canonB s := by
  unfold refCanonB canonB
  rw [refName_eq]
  unfold nameB
  cases decide (s.length ≤ 256) <;> simp
theorem name_addr {s : List UInt8} (h : canonB s = true) : nameB s = !addrB s := by
  unfold canonB at h
  unfold nameB at *
  revert h
  cases decide (s.length ≤ 256) <;> cases addrB s <;> simp
theorem refMatch_eq (h d : List UInt8) : refMatchB h d = matchB h d := by
  unfold refMatchB matchB
  rw [refCanon_eq, refCanon_eq, refName_eq]
  cases hc : canonB h
  · rfl
  rw [name_addr hc]
  congr 1
  congr 1
  rw [Bool.and_assoc, Bool.and_assoc]
  congr 1
  rw [Bool.eq_iff_iff]
  simp only [Bool.and_eq_true, decide_eq_true_eq, beq_iff_eq, Lib.hasSuffix, List.isSuffixOf_iff_suffix]
  constructor
  · rintro ⟨h1, h2, h3⟩
    refine ⟨h.take (h.length - d.length - 1), ?_⟩
    conv => rhs; rw [← List.take_append_drop (h.length - d.length - 1) h]
    congr 1
    rw [drop_getD h _ (by omega), h2, show h.length - d.length - 1 + 1 = h.length - d.length by omega, h3]
  · rintro ⟨t, rfl⟩
    simp only [List.length_append, List.length_cons]
    refine ⟨by omega, ?_, ?_⟩
    · rw [show t.length + (d.length + 1) - d.length - 1 = t.length by omega, List.getD_eq_getElem?_getD, List.getElem?_append_right (Nat.le_refl _)]
      simp
    · rw [show t.length + (d.length + 1) - d.length = t.length + 1 by omega]
      rw [← List.drop_drop, List.drop_left]; rfl
end Go.Proofs.Ytgfoaopfdpclhaa
