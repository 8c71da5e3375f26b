/-
  The walks of package date, seventh part: plain facts on clocks; a clock walked.
-/
import Derived.Test.YtagiolhciplniaaDoorDate6
namespace Go.Proofs.YtagiolhciplniaaDoor
open Go.RowKit
set_option linter.unusedVariables false

def colB (r : List UInt8) : Bool := !r.isEmpty && r.getD 0 0 == 58
/-- A clock's fields that are left: how many, in which text, what they made, and whether that is right. -/
def clkGo : Nat → List UInt8 → Int → Bool → Option (Int × Bool)
  | 0, _, o, rt => some (o, rt)
  | r + 1, l, o, rt =>
    if (fieldT l 1 2).2.2 then
      if decide (r = 0) || colB (fieldT l 1 2).2.1 then clkGo r ((fieldT l 1 2).2.1.drop 1) (o * 60 + (fieldT l 1 2).1) (rt && decide ((fieldT l 1 2).1 < 60) && (decide (r < 2) || decide ((fieldT l 1 2).1 < 24)))
      else none
    else none
def clockT (l : List UInt8) : Option (Int × Bool) := clkGo 3 l 0 true
theorem field_eq {l : List UInt8} {a b : Int} (h : (fieldT l a b).2.2 = true) : a ≤ digN l ∧ (digN l : Int) ≤ b ∧ (fieldT l a b).1 = numV (l.take (digN l)) ∧ (fieldT l a b).2.1 = l.drop (digN l) := by
  unfold fieldT at h ⊢
  split at h
  · cases h
  · rename_i hn
    rw [if_neg hn]
    exact ⟨by omega, by omega, rfl, rfl⟩
theorem valTo_pow (l : List UInt8) (k : Nat) (h : ∀ j, j < k → digitB (l.getD j 0) = true) : 0 ≤ valTo l k ∧ valTo l k < 10 ^ k := by
  induction k with
  | zero => simp [valTo]
  | succ k ih =>
    have ih := ih fun j hj => h j (by omega)
    have hd := h k (by omega)
    unfold digitB at hd
    simp only [decide_eq_true_eq] at hd
    unfold valTo
    rw [Int.pow_succ]
    generalize (10 : Int) ^ k = p at *
    omega
theorem numV_pow (l : List UInt8) (h : 1 ≤ digN l) : 0 ≤ numV (l.take (digN l)) ∧ numV (l.take (digN l)) < 10 ^ (digN l) := by
  have hle := digN_le l
  have hlen : (l.take (digN l)).length = digN l := by rw [List.length_take]; omega
  have hd : digN (l.take (digN l)) = (l.take (digN l)).length := by
    rw [hlen]
    refine digN_end _ _ (fun j hj => ?_) (.inl hlen.symm)
    rw [List.getD_eq_getElem?_getD, List.getElem?_take_of_lt hj, ← List.getD_eq_getElem?_getD]
    exact digN_all l j hj
  have hne : l.take (digN l) ≠ [] := fun e => by rw [e] at hlen; simp at hlen; omega
  rw [numV_digits hne hd, hlen]
  exact valTo_pow _ _ fun j hj => by
    rw [List.getD_eq_getElem?_getD, List.getElem?_take_of_lt hj, ← List.getD_eq_getElem?_getD]
    exact digN_all l j hj
theorem field_bd {l : List UInt8} (h : (fieldT l 1 2).2.2 = true) : 0 ≤ (fieldT l 1 2).1 ∧ (fieldT l 1 2).1 ≤ 99 := by
  obtain ⟨h1, h2, h3, _⟩ := field_eq h
  have := numV_pow l (by omega)
  rw [h3]
  have hc : digN l = 1 ∨ digN l = 2 := by omega
  rcases hc with e | e
  · rw [e] at this ⊢; omega
  · rw [e] at this ⊢; omega
theorem field_bd4 {l : List UInt8} (h : (fieldT l 2 4).2.2 = true) : 0 ≤ (fieldT l 2 4).1 ∧ (fieldT l 2 4).1 ≤ 9999 := by
  obtain ⟨h1, h2, h3, _⟩ := field_eq h
  have := numV_pow l (by omega)
  rw [h3]
  have hc : digN l = 2 ∨ digN l = 3 ∨ digN l = 4 := by omega
  rcases hc with e | e | e
  · rw [e] at this ⊢; omega
  · rw [e] at this ⊢; omega
  · rw [e] at this ⊢; omega
theorem field_len {l : List UInt8} {a b : Int} : (fieldT l a b).2.1.length ≤ l.length := by
  unfold fieldT
  split
  · exact Nat.le_refl _
  · simp
theorem clk_no {r : Nat} {l : List UInt8} {o : Int} {rt : Bool} (h : (fieldT l 1 2).2.2 = false) : clkGo (r + 1) l o rt = none := by
  rw [clkGo, if_neg (by rw [h]; decide)]
theorem clk_col {r : Nat} {l : List UInt8} {o : Int} {rt : Bool} (hr : r ≠ 0) (h : colB (fieldT l 1 2).2.1 = false) : clkGo (r + 1) l o rt = none := by
  rw [clkGo]
  split
  · rw [if_neg (by rw [h]; simp [hr])]
  · rfl
theorem clk_go {r : Nat} {l : List UInt8} {o : Int} {rt : Bool} (h : (fieldT l 1 2).2.2 = true) (hr : r = 0 ∨ colB (fieldT l 1 2).2.1 = true) : clkGo (r + 1) l o rt = clkGo r ((fieldT l 1 2).2.1.drop 1) (o * 60 + (fieldT l 1 2).1) (rt && decide ((fieldT l 1 2).1 < 60) && (decide (r < 2) || decide ((fieldT l 1 2).1 < 24))) := by
  rw [clkGo, if_pos h, if_pos (by rcases hr with h | h <;> simp [h])]
end Go.Proofs.YtagiolhciplniaaDoor
