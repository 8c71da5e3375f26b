/-
  The walks of package ascii, third part: the reference's parts, trimming, numbers.
-/
import Derived.Test.YtdefpphfbpkeaaaAscii2
namespace Go.Proofs.Ytdefpphfbpkeaaa
open Go.RowKit
set_option linter.unusedVariables false

theorem drop_take_getD (l : List UInt8) (a j : Nat) : (l.drop a).getD j 0 = l.getD (a + j) 0 := by
  rw [List.getD_eq_getElem?_getD, List.getD_eq_getElem?_getD, List.getElem?_drop]

theorem split_at {c : UInt8} {l : List UInt8} {a k : Nat} (ha : a ≤ k) (hk : k < l.length) (h : ∀ j, j < k → a ≤ j → (l.getD j 0 == c) = false) (hh : (l.getD k 0 == c) = true) :
    splitL (l.drop a) c = ((l.drop a).take (k - a)) :: splitL (l.drop (k + 1)) c := by
  have h1 := cut_hit c (l.drop a) (k - a) (fun j hj => by rw [drop_take_getD]; exact h (a + j) (by omega) (by omega)) (by rw [drop_take_getD, show a + (k - a) = k by omega]; exact hh) (by simp; omega)
  rw [split_cut, h1]
  simp only [List.drop_drop]
  rw [show a + (k - a + 1) = k + 1 by omega]
theorem split_end {c : UInt8} {l : List UInt8} {a : Nat} (h : ∀ j, j < l.length → a ≤ j → (l.getD j 0 == c) = false) : splitL (l.drop a) c = [l.drop a] := by
  have h1 := cut_none c (l.drop a) (fun j hj => by rw [drop_take_getD]; exact h (a + j) (by simp at hj; omega) (by omega))
  rw [split_cut, h1]

def ltrim (l : List UInt8) : List UInt8 := l.dropWhile blankB
def rtrim (l : List UInt8) : List UInt8 := (l.reverse.dropWhile blankB).reverse
def trimL (l : List UInt8) : List UInt8 := rtrim (ltrim l)
theorem ltrim_step {l : List UInt8} (h0 : 0 < l.length) (h : blankB (l.getD 0 0) = true) : ltrim l = ltrim (l.drop 1) := by
  cases l with
  | nil => simp at h0
  | cons x r => unfold ltrim; rw [List.dropWhile_cons_of_pos (by simpa using h)]; rfl
theorem ltrim_end {l : List UInt8} (h : l.length = 0 ∨ blankB (l.getD 0 0) = false) : ltrim l = l := by
  cases l with
  | nil => rfl
  | cons x r =>
    rcases h with h | h
    · simp at h
    · unfold ltrim; rw [List.dropWhile_cons_of_neg (by simpa using h)]
theorem rtrim_step {l : List UInt8} (h0 : 0 < l.length) (h : blankB (l.getD (l.length - 1) 0) = true) : rtrim l = rtrim (l.take (l.length - 1)) := by
  have e : l = l.take (l.length - 1) ++ [l.getD (l.length - 1) 0] := by
    have := take_succ_getD l (l.length - 1) (by omega)
    rw [show l.length - 1 + 1 = l.length by omega, List.take_length] at this
    exact this
  unfold rtrim
  conv => lhs; rw [e]
  rw [List.reverse_append, List.reverse_singleton, List.singleton_append, List.dropWhile_cons_of_pos (by simpa using h)]
theorem rtrim_end {l : List UInt8} (h : l.length = 0 ∨ blankB (l.getD (l.length - 1) 0) = false) : rtrim l = l := by
  rcases h with h | h
  · have : l = [] := List.eq_nil_of_length_eq_zero h
    subst this; rfl
  · by_cases h0 : l.length = 0
    · have : l = [] := List.eq_nil_of_length_eq_zero h0
      subst this; rfl
    · have e : l = l.take (l.length - 1) ++ [l.getD (l.length - 1) 0] := by
        have := take_succ_getD l (l.length - 1) (by omega)
        rw [show l.length - 1 + 1 = l.length by omega, List.take_length] at this
        exact this
      unfold rtrim
      have : l.reverse = l.getD (l.length - 1) 0 :: (l.take (l.length - 1)).reverse := by
        conv => lhs; rw [e]
        rw [List.reverse_append]; rfl
      rw [this, List.dropWhile_cons_of_neg (by simpa using h), ← this, List.reverse_reverse]

theorem isEmpty_size (s : ByteArray) : s.toList.isEmpty = decide (s.size = 0) := by
  rw [size_toList]
  cases s.toList <;> simp

end Go.Proofs.Ytdefpphfbpkeaaa
