/-
  The walks of package ascii, fifth part: the reference's numbers; texts of numbers; small letters.
-/
import Derived.Test.YtdefpphfbpkeaaaAscii4
namespace Go.Proofs.Ytdefpphfbpkeaaa
open Go.RowKit
set_option linter.unusedVariables false

/-- The decimal digits of a number. -/
def upL (n : Nat) : List UInt8 := if n < 10 then [48 + UInt8.ofNat n] else upL (n / 10) ++ [48 + UInt8.ofNat (n % 10)]
termination_by n
decreasing_by omega
theorem upL_small {n : Nat} (h : n < 10) : upL n = [48 + UInt8.ofNat (n % 10)] := by
  rw [upL, if_pos h, Nat.mod_eq_of_lt h]
theorem upL_big {n : Nat} (h : ¬ n < 10) : upL n = upL (n / 10) ++ [48 + UInt8.ofNat (n % 10)] := by
  rw [upL, if_neg h]
theorem upL_len (n : Nat) (k : Nat) (h : n < 10 ^ k) (hk : 0 < k) : (upL n).length ≤ k := by
  induction k generalizing n with
  | zero => omega
  | succ k ih =>
    by_cases h9 : n < 10
    · rw [upL_small h9]; simp
    · rw [upL_big h9]
      have : 0 < k := by
        rcases Nat.eq_zero_or_pos k with h0 | h0
        · subst h0; simp at h; omega
        · exact h0
      have := ih (n / 10) (by rw [Nat.pow_succ] at h; omega) this
      simp
      omega

def textL (n : Int) : List UInt8 := if n < 0 then 45 :: upL (-n).toNat else upL n.toNat

theorem textL_neg {n : Int} (h : n < 0) : textL n = 45 :: upL (-n).toNat := by unfold textL; rw [if_pos h]
theorem textL_pos {n : Int} (h : ¬ n < 0) : textL n = upL n.toNat := by unfold textL; rw [if_neg h]
end Go.Proofs.Ytdefpphfbpkeaaa
