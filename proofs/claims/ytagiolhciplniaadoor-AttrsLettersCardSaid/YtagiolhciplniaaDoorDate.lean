/-
  The walks of package date: leap years, days, the calendar.
-/
import Derived.Test.YtagiolhciplniaaDoorUp
namespace Go.Proofs.YtagiolhciplniaaDoor
open Go.RowKit
set_option linter.unusedVariables false

def leapB (y : Int) : Bool := decide (y.tmod 4 = 0) && (!decide (y.tmod 100 = 0) || decide (y.tmod 400 = 0))

set_option maxHeartbeats 1000000 in
theorem leap_any (y : Int) (w : World) :
    Calls Tryd.prog 22 #[.int .i64 y] w fun e w' => e = .returned (.bool (leapB y)) ∧ w = w' := by
  go_enter Tryd.func22, Tryd.ntmps22
  go_wp2
  all_goals
    go_ret
    refine ⟨ret_bool ?_, rfl⟩
    unfold leapB
    simp [*]
    try (rw [Bool.eq_iff_iff]; simp)

set_option maxHeartbeats 1000000 in
theorem refLeap_any (y : Int) (w : World) :
    Calls Tryd.prog 23 #[.int .i64 y] w fun e w' => e = .returned (.bool (leapB y)) ∧ w = w' := by
  go_enter Tryd.func23, Tryd.ntmps23
  go_wp2
  all_goals
    go_ret
    refine ⟨ret_bool ?_, rfl⟩
    unfold leapB
    simp [*]
    try (rw [Bool.eq_iff_iff]; simp)

def longI (y m : Int) : Int := if m = 2 then (if leapB y then 29 else 28) else if m = 4 ∨ m = 6 ∨ m = 9 ∨ m = 11 then 30 else 31
theorem longI_bd (y m : Int) : 28 ≤ longI y m ∧ longI y m ≤ 31 := by unfold longI; split <;> split <;> omega

set_option maxHeartbeats 1000000 in
theorem long_any (y m : Int) (w : World) :
    Calls Tryd.prog 32 #[.int .i64 y, .int .i64 m] w fun e w' => e = .returned (.int .i64 (longI y m)) ∧ w = w' := by
  by_cases h2 : m = 2
  · subst h2
    cases hl : leapB y
    all_goals
      have hL := Lib.hid hl
      have hfin := Lib.hid (show longI y 2 = if leapB y then 29 else 28 from if_pos rfl)
      clear hl
      go_enter Tryd.func32, Tryd.ntmps32
      go_wp2_with fail
      refine (leap_any _ _).mono ?_
      rintro e w' ⟨rfl, rfl⟩
      rw [hL.out]
      go_wp2
      go_ret
      exact ⟨ret_int (by rw [hfin.out, hL.out]; rfl), rfl⟩
  · have hfin := Lib.hid (show longI y m = if m = 4 ∨ m = 6 ∨ m = 9 ∨ m = 11 then 30 else 31 from if_neg h2)
    have h2i : (m == 2) = false := beq_eq_false_iff_ne.2 h2
    go_enter Tryd.func32, Tryd.ntmps32
    go_wp2
    all_goals
      go_ret
      refine ⟨ret_int ?_, rfl⟩
      rw [hfin.out]
      try simp only [beq_iff_eq, beq_eq_false_iff_ne] at *
      first
        | rw [if_pos (by omega)]
        | rw [if_neg (by omega)]

set_option maxHeartbeats 2000000 in
theorem week_any (n : Int) (w : World) (h1 : -2932896 ≤ n) (h2 : n ≤ 2932896) :
    Calls Tryd.prog 18 #[.int .i64 n] w fun e w' => e = .returned (.int .i64 ((n.tmod 7 + 11) % 7)) ∧ w = w' := by
  have hm : -7 < n.tmod 7 ∧ n.tmod 7 < 7 := ⟨by have := Int.lt_tmod_of_pos n (by decide : (0:Int) < 7); omega, Int.tmod_lt_of_pos n (by decide)⟩
  go_enter Tryd.func18, Tryd.ntmps18
  go_wp2
  go_ret
  exact ⟨ret_int (by first | rfl | (rw [Int.tmod_eq_emod_of_nonneg (by omega)])), rfl⟩

def rightB (y m d : Int) : Bool := decide (1601 ≤ y) && decide (y ≤ 9999) && decide (1 ≤ m) && decide (m ≤ 12) && decide (1 ≤ d) && decide (d ≤ longI y m)
def daysI (y m d : Int) : Int :=
  let y' := if m < 3 then y - 1 else y
  let m' := if m < 3 then m - 3 + 12 else m - 3
  y' / 400 * 146097 + (y' % 400 * 365 + y' % 400 / 4 - y' % 400 / 100 + (153 * m' + 2) / 5 + d - 1) - 719468
def daysT (y m d : Int) : Int × Int := if rightB y m d then (daysI y m d, 0) else (0, 4)

set_option maxHeartbeats 4000000 in
theorem days_any (y m d : Int) (w : World) (hy : -9223372036854775808 ≤ y ∧ y ≤ 9223372036854775807) (hm : -9223372036854775808 ≤ m ∧ m ≤ 9223372036854775807) (hd : -9223372036854775808 ≤ d ∧ d ≤ 9223372036854775807) :
    Calls Tryd.prog 12 #[.int .i64 y, .int .i64 m, .int .i64 d] w fun e w' => e = .returned (.tuple #[.int .i64 (daysT y m d).1, .int .i64 (daysT y m d).2]) ∧ w = w' := by
  cases hr : rightB y m d
  · have hT := Lib.hid (show daysT y m d = (0, 4) by unfold daysT; rw [hr]; rfl)
    have hcs : y < 1601 ∨ (1601 ≤ y ∧ 9999 < y) ∨ (1601 ≤ y ∧ y ≤ 9999 ∧ m < 1) ∨ (1601 ≤ y ∧ y ≤ 9999 ∧ 1 ≤ m ∧ 12 < m) ∨ (1601 ≤ y ∧ y ≤ 9999 ∧ 1 ≤ m ∧ m ≤ 12 ∧ d < 1) ∨ (1601 ≤ y ∧ y ≤ 9999 ∧ 1 ≤ m ∧ m ≤ 12 ∧ 1 ≤ d ∧ longI y m < d) := by
      unfold rightB at hr
      by_cases a : 1601 ≤ y
      · by_cases b : y ≤ 9999
        · by_cases c : 1 ≤ m
          · by_cases e : m ≤ 12
            · by_cases f : 1 ≤ d
              · have : ¬ d ≤ longI y m := by intro g; simp [a, b, c, e, f, g] at hr
                omega
              · omega
            · omega
          · omega
        · omega
      · omega
    clear hr
    rcases hcs with h | ⟨g1, h⟩ | ⟨g1, g2, h⟩ | ⟨g1, g2, g3, h⟩ | ⟨g1, g2, g3, g4, h⟩ | ⟨g1, g2, g3, g4, g5, h⟩
    iterate 5
      · go_enter Tryd.func12, Tryd.ntmps12
        go_wp2
        rw [hT.out]
        go_ret2
        exact ⟨rfl, rfl⟩
    have hbd := longI_bd y m
    go_enter Tryd.func12, Tryd.ntmps12
    go_wp2_with fail
    refine (long_any _ _ _).mono ?_
    rintro e w' ⟨rfl, rfl⟩
    go_wp2
    rw [hT.out]
    go_ret2
    exact ⟨rfl, rfl⟩
  · have hT := Lib.hid (show daysT y m d = (daysI y m d, 0) by unfold daysT; rw [hr]; rfl)
    unfold rightB at hr
    simp only [Bool.and_eq_true, decide_eq_true_eq] at hr
    obtain ⟨⟨⟨⟨⟨g1, g2⟩, g3⟩, g4⟩, g5⟩, g6⟩ := hr
    have hbd := longI_bd y m
    by_cases h3 : m < 3
    · have hI := Lib.hid (show daysI y m d = (y - 1) / 400 * 146097 + ((y - 1) % 400 * 365 + (y - 1) % 400 / 4 - (y - 1) % 400 / 100 + (153 * (m - 3 + 12) + 2) / 5 + d - 1) - 719468 by unfold daysI; simp only [if_pos h3])
      go_enter Tryd.func12, Tryd.ntmps12
      go_wp2_with fail
      refine (long_any _ _ _).mono ?_
      rintro e w' ⟨rfl, rfl⟩
      go_wp2
      rw [hT.out, hI.out]
      go_ret2
      exact ⟨rfl, rfl⟩
    · have hI := Lib.hid (show daysI y m d = y / 400 * 146097 + (y % 400 * 365 + y % 400 / 4 - y % 400 / 100 + (153 * (m - 3) + 2) / 5 + d - 1) - 719468 by unfold daysI; simp only [if_neg h3])
      go_enter Tryd.func12, Tryd.ntmps12
      go_wp2_with fail
      refine (long_any _ _ _).mono ?_
      rintro e w' ⟨rfl, rfl⟩
      go_wp2
      rw [hT.out, hI.out]
      go_ret2
      exact ⟨rfl, rfl⟩
end Go.Proofs.YtagiolhciplniaaDoor
