/-
  The walks of package date, third part: two digits, delimiters, fields.
-/
import Derived.Test.YtagiolhciplniaaDoorDate2
namespace Go.Proofs.YtagiolhciplniaaDoor
open Go.RowKit
set_option linter.unusedVariables false

def delimB (c : UInt8) : Bool := decide (c.toNat = 9 ∨ (32 ≤ c.toNat ∧ c.toNat ≤ 47) ∨ (59 ≤ c.toNat ∧ c.toNat ≤ 64) ∨ (91 ≤ c.toNat ∧ c.toNat ≤ 96) ∨ (123 ≤ c.toNat ∧ c.toNat ≤ 126))

set_option maxRecDepth 4000 in
set_option maxHeartbeats 2000000 in
theorem delim_any (c : UInt8) (w : World) :
    Calls Tryd.prog 50 #[.int .u8 c.toNat] w fun e w' => e = .returned (.bool (delimB c)) ∧ w = w' := by
  have hc : c.toNat < 256 := c.toNat_lt
  go_enter Tryd.func50, Tryd.ntmps50
  go_wp2
  all_goals
    go_ret
    refine ⟨ret_bool (Eq.symm ?_), rfl⟩
    unfold delimB
    try simp only [decide_eq_true_eq] at *
    first
      | exact decide_eq_true (by omega)
      | exact decide_eq_false (by omega)
      | omega
      | (rw [Bool.eq_iff_iff]; simp; omega)

set_option maxRecDepth 4000 in
set_option maxHeartbeats 2000000 in
theorem refDelim_any (c : UInt8) (w : World) :
    Calls Tryd.prog 54 #[.int .u8 c.toNat] w fun e w' => e = .returned (.bool (delimB c)) ∧ w = w' := by
  have hc : c.toNat < 256 := c.toNat_lt
  go_enter Tryd.func54, Tryd.ntmps54
  go_wp2
  all_goals
    go_ret
    refine ⟨ret_bool (Eq.symm ?_), rfl⟩
    unfold delimB
    try simp only [decide_eq_true_eq] at *
    first
      | exact decide_eq_true (by omega)
      | exact decide_eq_false (by omega)
      | omega
      | (rw [Bool.eq_iff_iff]; simp; omega)

def twoL (n : Int) : List UInt8 := [48 + UInt8.ofNat (n.toNat / 10), 48 + UInt8.ofNat (n.toNat % 10)]
set_option maxHeartbeats 1000000 in
theorem two_any (n : Int) (w : World) (h0 : 0 ≤ n) (h1 : n ≤ 99) :
    Calls Tryd.prog 42 #[.int .i64 n] w fun e w' => e = .returned (.string (S (twoL n))) ∧ Below w.heap.size w w' := by
  obtain ⟨k, rfl⟩ := Int.eq_ofNat_of_zero_le h0
  have hk : k ≤ 99 := by omega
  go_enter Tryd.func42, Tryd.ntmps42
  go_wp2
  go_ret
  exact ⟨ret_str (by unfold twoL; rw [UInt8.ofNat_add, UInt8.ofNat_add]; rfl), (Below.refl _ _).alloc (Nat.le_refl _) _⟩

def fieldT (l : List UInt8) (a b : Int) : Int × List UInt8 × Bool := if (digN l : Int) < a ∨ b < digN l then (0, l, false) else (numV (l.take (digN l)), l.drop (digN l), true)
set_option maxHeartbeats 1000000 in
theorem field_any (s : ByteArray) (a b : Int) (w : World) (hs : s.size ≤ maxLen) :
    Calls Tryd.prog 52 #[.string s, .int .i64 a, .int .i64 b] w fun e w' => e = .returned (.tuple #[.int .i64 (fieldT s.toList a b).1, .string (S (fieldT s.toList a b).2.1), .bool (fieldT s.toList a b).2.2]) ∧ Below w.heap.size w w' := by
  have hsz := Lib.hid (size_toList s)
  have hdl := digN_le s.toList
  rw [← size_toList] at hdl
  have hs' := hs
  unfold maxLen at hs'
  by_cases h1 : (digN s.toList : Int) < a
  · have hT := Lib.hid (show fieldT s.toList a b = (0, s.toList, false) from if_pos (.inl h1))
    go_enter Tryd.func52, Tryd.ntmps52
    go_wp2_with fail
    refine (digits_any _ _ hs).mono ?_
    rintro e w' ⟨rfl, rfl⟩
    go_wp2
    rw [hT.out]
    go_ret3
    exact ⟨by rw [S_of]; rfl, Below.refl _ _⟩
  by_cases h2 : b < (digN s.toList : Int)
  · have hT := Lib.hid (show fieldT s.toList a b = (0, s.toList, false) from if_pos (.inr h2))
    have h1i : decide ((digN s.toList : Int) < a) = false := decide_eq_false h1
    go_enter Tryd.func52, Tryd.ntmps52
    go_wp2_with fail
    refine (digits_any _ _ hs).mono ?_
    rintro e w' ⟨rfl, rfl⟩
    go_wp2
    rw [hT.out]
    go_ret3
    exact ⟨by rw [S_of]; rfl, Below.refl _ _⟩
  have hT := Lib.hid (show fieldT s.toList a b = (numV (s.toList.take (digN s.toList)), s.toList.drop (digN s.toList), true) from if_neg (by rintro (h | h); exact h1 h; exact h2 h))
  have h1i : decide ((digN s.toList : Int) < a) = false := decide_eq_false h1
  have h2i : decide (b < (digN s.toList : Int)) = false := decide_eq_false h2
  have hx1 := Lib.hid (extract_to s (digN s.toList))
  have hx2 := Lib.hid (extract_from s (digN s.toList))
  generalize hkk : digN s.toList = k at *
  have hkH := Lib.hid hkk
  clear hkk
  have hki : (k : Int) ≤ s.size := by omega
  have hz : (s.extract 0 k).size ≤ maxLen := by rw [hx1.out, S_size, List.length_take]; omega
  go_enter Tryd.func52, Tryd.ntmps52
  go_wp2_with fail
  refine (digits_any _ _ hs).mono ?_
  rintro e w' ⟨rfl, rfl⟩
  rw [hkH.out]
  go_wp2_with fail
  refine (number_any _ _ hz).mono ?_
  rintro e w' ⟨rfl, rfl⟩
  rw [hx1.out, S_toList]
  go_wp2
  go_quiet (fail)
  go_wp2
  rw [hT.out]
  go_ret3
  exact ⟨by rw [← hx2.out]; rfl, below_drews (Below.refl _ _) _⟩
end Go.Proofs.YtagiolhciplniaaDoor
