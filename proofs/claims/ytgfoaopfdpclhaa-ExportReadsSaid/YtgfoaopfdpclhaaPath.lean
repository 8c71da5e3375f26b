/-
  The walks of package path, and of its reference: what each function answers, as a plain function on lists of bytes.
-/
import Derived.Test.YtgfoaopfdpclhaaBase
namespace Go.Proofs.Ytgfoaopfdpclhaa
open Go.RowKit
set_option linter.unusedVariables false

/-- The last place below k that holds c; -1: there is none. -/
def lastTo (l : List UInt8) (c : UInt8) : Nat → Int
  | 0 => -1
  | k + 1 => if l.getD k 0 == c then (k : Int) else lastTo l c k
theorem lastTo_hit {l : List UInt8} {c : UInt8} {k : Nat} (h : (l.getD k 0 == c) = true) : lastTo l c (k + 1) = k := by rw [lastTo, if_pos h]
theorem lastTo_miss {l : List UInt8} {c : UInt8} {k : Nat} (h : (l.getD k 0 == c) = false) : lastTo l c (k + 1) = lastTo l c k := by rw [lastTo, if_neg (by rw [h]; decide)]
theorem lastTo_lt (l : List UInt8) (c : UInt8) (k : Nat) : -1 ≤ lastTo l c k ∧ lastTo l c k < k := by
  induction k with
  | zero => simp [lastTo]
  | succ k ih => unfold lastTo; split <;> omega

set_option maxHeartbeats 400000 in
theorem hasPrefix0 (s t : ByteArray) (w : World) (hs : s.size ≤ maxLen) (ht : t.size ≤ maxLen) :
    Calls Try.prog 59 #[.string s, .string t] w fun e w' => e = .returned (.bool (Lib.hasPrefix s.toList t.toList)) ∧ w = w' := by
  unfold maxLen at hs ht
  go_enter Try.func59, Try.ntmps59
  go_wp2
  all_goals
    go_ret
    refine ⟨ret_bool ?_, rfl⟩
    rw [← hasPrefix_raw]
    simp [*]

set_option maxHeartbeats 400000 in
theorem hasPrefix_any (s t : ByteArray) (w : World) (hs : s.size ≤ maxLen) (ht : t.size ≤ maxLen) :
    Calls Try.prog 37 #[.string s, .string t] w fun e w' => e = .returned (.bool (Lib.hasPrefix s.toList t.toList)) ∧ w = w' := by
  go_enter Try.func37, Try.ntmps37
  go_wp2_with (go_at_call 59; refine (hasPrefix0 _ _ _ hs ht).mono ?_; rintro e w' ⟨rfl, rfl⟩)
  go_ret
  exact ⟨rfl, rfl⟩

/-- What package path answers as a path's directory. -/
def dirOf (l : List UInt8) : List UInt8 := if Lib.hasPrefix l [47] = false ∨ lastTo l 47 l.length = 0 then [47] else l.take (lastTo l 47 l.length).toNat

theorem hasPrefix_get {l : List UInt8} {c : UInt8} (h : Lib.hasPrefix l [c] = true) : 0 < l.length ∧ (l.getD 0 0 == c) = true := by
  cases l with
  | nil => simp [Lib.hasPrefix] at h
  | cons x l =>
    have h' : c = x := by simpa [Lib.hasPrefix] using h
    subst h'
    simp
theorem lastTo_ge {l : List UInt8} {c : UInt8} {i : Nat} (h : (l.getD i 0 == c) = true) {k : Nat} (hi : i < k) : (i : Int) ≤ lastTo l c k := by
  induction k with
  | zero => omega
  | succ k ih =>
    unfold lastTo
    split
    · omega
    · rename_i hn
      by_cases e : i = k
      · subst e; exact absurd h hn
      · exact ih (by omega)

/-- Does a path fit a cookie's path? -/
def fitB (p c : List UInt8) : Bool := p == c || (Lib.hasPrefix p c && (Lib.hasSuffix c [47] || p.getD c.length 0 == 47))

/-- How many places below k hold c. -/
def countTo (l : List UInt8) (c : UInt8) : Nat → Nat
  | 0 => 0
  | k + 1 => if l.getD k 0 == c then countTo l c k + 1 else countTo l c k
theorem countTo_le (l : List UInt8) (c : UInt8) (k : Nat) : countTo l c k ≤ k := by
  induction k with
  | zero => simp [countTo]
  | succ k ih => unfold countTo; split <;> omega
theorem countTo_hit {l : List UInt8} {c : UInt8} {k : Nat} (h : (l.getD k 0 == c) = true) : countTo l c (k + 1) = countTo l c k + 1 := by rw [countTo, if_pos h]
theorem countTo_miss {l : List UInt8} {c : UInt8} {k : Nat} (h : (l.getD k 0 == c) = false) : countTo l c (k + 1) = countTo l c k := by rw [countTo, if_neg (by rw [h]; decide)]

/-- What the reference answers as a path's directory. -/
def refDir (l : List UInt8) : List UInt8 := if lastTo l 47 l.length ≤ 0 ∨ (l.getD 0 0 == 47) = false then [47] else l.take (lastTo l 47 l.length).toNat

/-- What the reference answers: does a path fit? -/
def refFit (p c : List UInt8) : Bool :=
  if p.length < c.length then false else if !(p.take c.length == c) then false else if p.length = c.length then true
  else (decide (0 < c.length) && c.getD (c.length - 1) 0 == 47) || p.getD c.length 0 == 47

end Go.Proofs.Ytgfoaopfdpclhaa
