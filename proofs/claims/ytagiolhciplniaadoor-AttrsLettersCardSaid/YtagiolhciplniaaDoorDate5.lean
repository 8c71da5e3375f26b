/-
  The walks of package date, fifth part: a text's parts. NOT BUILT YET.
-/
import Derived.Test.YtagiolhciplniaaDoorDate4
namespace Go.Proofs.YtagiolhciplniaaDoor
open Go.RowKit
set_option linter.unusedVariables false

theorem tokGo_len (cur l : List UInt8) : (tokGo cur l).length ≤ l.length + 1 := by
  induction l generalizing cur with
  | nil => unfold tokGo; split <;> simp
  | cons c r ih =>
    unfold tokGo
    have h1 := ih []
    have h2 := ih (cur ++ [c])
    split
    · split
      · simp; omega
      · simp; omega
    · simp; omega
/-- What is parted when the look has come to k, the present part having begun at f. -/
theorem tok_in {l : List UInt8} {f k : Nat} (hf : f ≤ k) (hk : k < l.length) (h : delimB (l.getD k 0) = false) : tokGo ((l.drop f).take (k - f)) (l.drop k) = tokGo ((l.drop f).take (k + 1 - f)) (l.drop (k + 1)) := by
  rw [drop_getD l k hk, tokGo, if_neg (by rw [h]; decide)]
  congr 1
  rw [show k + 1 - f = (k - f) + 1 by omega, take_succ_getD _ _ (by simp; omega)]
  congr 2
  rw [List.getD_eq_getElem?_getD, List.getD_eq_getElem?_getD, List.getElem?_drop]
  congr 2
  omega
theorem tok_cut {l : List UInt8} {f k : Nat} (hf : f ≤ k) (hk : k < l.length) (h : delimB (l.getD k 0) = true) : tokGo ((l.drop f).take (k - f)) (l.drop k) = (if f < k then [(l.drop f).take (k - f)] else []) ++ tokGo ((l.drop (k + 1)).take (k + 1 - (k + 1))) (l.drop (k + 1)) := by
  rw [drop_getD l k hk, tokGo, if_pos h]
  have e : ((l.drop f).take (k - f)).length = k - f := by simp; omega
  by_cases hfk : f < k
  · have : ((l.drop f).take (k - f)).isEmpty = false := by
      cases hh : (l.drop f).take (k - f) with
      | nil => rw [hh] at e; simp at e; omega
      | cons a b => rfl
    rw [this, if_pos hfk]; simp
  · have : (l.drop f).take (k - f) = [] := by rw [show k - f = 0 by omega]; simp
    rw [this, if_neg hfk]; simp
theorem tok_end {l : List UInt8} {f : Nat} (hf : f ≤ l.length) : tokGo ((l.drop f).take (l.length - f)) (l.drop l.length) = (if f < l.length then [(l.drop f).take (l.length - f)] else []) := by
  rw [List.drop_length, tokGo]
  have e : ((l.drop f).take (l.length - f)).length = l.length - f := by simp
  by_cases hfk : f < l.length
  · have : ((l.drop f).take (l.length - f)).isEmpty = false := by
      cases hh : (l.drop f).take (l.length - f) with
      | nil => rw [hh] at e; simp at e; omega
      | cons a b => rfl
    rw [this, if_pos hfk]; simp
  · have : (l.drop f).take (l.length - f) = [] := by rw [show l.length - f = 0 by omega]; simp
    rw [this, if_neg hfk]; rfl
end Go.Proofs.YtagiolhciplniaaDoor
