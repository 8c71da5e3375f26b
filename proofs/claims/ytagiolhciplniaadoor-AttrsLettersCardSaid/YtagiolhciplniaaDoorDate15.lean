/-
  The reference's calendar walked: how long a month is, is there such a day, a day's number.
-/
import Derived.Test.YtagiolhciplniaaDoorDate14
namespace Go.Proofs.YtagiolhciplniaaDoor
open Go.RowKit
set_option linter.unusedVariables false

theorem i64_wf {n : Int} (h : (Lit.int .i64 n).wf = true) : -9223372036854775808 ≤ n ∧ n ≤ 9223372036854775807 := by
  simp [Lit.wf, IntKind.min, IntKind.max, IntKind.signed, IntKind.bits] at h
  exact ⟨by omega, by omega⟩

set_option maxRecDepth 4000 in
set_option maxHeartbeats 2000000 in
theorem refLong_any (y m : Int) (w : World) (h1 : 1 ≤ m) (h2 : m ≤ 12) :
    Calls Tryd.prog 17 #[.int .i64 y, .int .i64 m] w fun e w' => e = .returned (.int .i64 (longI y m)) ∧ Below w.heap.size w w' := by
  by_cases hm2 : m = 2
  · subst hm2
    cases hl : leapB y
    · have hL := Lib.hid hl
      have hfin := Lib.hid (show longI y 2 = 28 by unfold longI; rw [if_pos rfl, hl]; rfl)
      clear hl
      go_enter Tryd.func17, Tryd.ntmps17
      go_wp2_with fail
      refine (refLeap_any _ _).mono ?_
      rintro e w' ⟨rfl, rfl⟩
      rw [hL.out]
      go_wp2
      go_ret
      exact ⟨ret_int (by rw [hfin.out]), (Below.refl _ _).alloc (Nat.le_refl _) _⟩
    · have hL := Lib.hid hl
      have hfin := Lib.hid (show longI y 2 = 29 by unfold longI; rw [if_pos rfl, hl]; rfl)
      clear hl
      go_enter Tryd.func17, Tryd.ntmps17
      go_wp2_with fail
      refine (refLeap_any _ _).mono ?_
      rintro e w' ⟨rfl, rfl⟩
      rw [hL.out]
      go_wp2
      go_ret
      exact ⟨ret_int (by rw [hfin.out]), Below.refl _ _⟩
  · have hm2i : (m == 2) = false := beq_eq_false_iff_ne.2 hm2
    have hcs : m = 1 ∨ m = 3 ∨ m = 4 ∨ m = 5 ∨ m = 6 ∨ m = 7 ∨ m = 8 ∨ m = 9 ∨ m = 10 ∨ m = 11 ∨ m = 12 := by omega
    clear hm2 h1 h2
    rcases hcs with rfl | rfl | rfl | rfl | rfl | rfl | rfl | rfl | rfl | rfl | rfl
    all_goals
      clear hm2i
      go_enter Tryd.func17, Tryd.ntmps17
      go_wp2
      go_ret
      exact ⟨ret_int rfl, (Below.refl _ _).alloc (Nat.le_refl _) _⟩

set_option maxRecDepth 4000 in
set_option maxHeartbeats 2000000 in
theorem refRight7_any (y m d : Int) (w : World) :
    Calls Tryd.prog 13 #[.int .i64 y, .int .i64 m, .int .i64 d] w fun e w' => e = .returned (.bool (rightB y m d)) ∧ Below w.heap.size w w' := by
  by_cases hok : 1601 ≤ y ∧ y ≤ 9999 ∧ 1 ≤ m ∧ m ≤ 12 ∧ 1 ≤ d
  · obtain ⟨h1, h2, h3, h4, h5⟩ := hok
    have hr := Lib.hid (show rightB y m d = decide (d ≤ longI y m) by unfold rightB; simp [h1, h2, h3, h4, h5])
    go_enter Tryd.func13, Tryd.ntmps13
    go_wp2_with fail
    refine (refLong_any y m _ h3 h4).mono ?_
    rintro e w1 ⟨rfl, hb⟩
    generalize longI y m = L at *
    go_wp2
    go_ret
    exact ⟨ret_bool (by rw [hr.out]), hb⟩
  · have hr := Lib.hid (show rightB y m d = false by
      cases hh : rightB y m d
      · rfl
      · have := rightB_iff.1 hh; exact absurd ⟨this.1.1, this.1.2, this.2.1.1, this.2.1.2, this.2.2.1⟩ hok)
    have hcs : y < 1601 ∨ (1601 ≤ y ∧ 9999 < y) ∨ (1601 ≤ y ∧ y ≤ 9999 ∧ m < 1) ∨ (1601 ≤ y ∧ y ≤ 9999 ∧ 1 ≤ m ∧ 12 < m) ∨ (1601 ≤ y ∧ y ≤ 9999 ∧ 1 ≤ m ∧ m ≤ 12 ∧ d < 1) := by omega
    clear hok
    rcases hcs with h1 | ⟨h1, h2⟩ | ⟨h1, h2, h3⟩ | ⟨h1, h2, h3, h4⟩ | ⟨h1, h2, h3, h4, h5⟩
    all_goals
      go_enter Tryd.func13, Tryd.ntmps13
      go_wp2
      go_ret
      exact ⟨ret_bool (by rw [hr.out]), Below.refl _ _⟩

def aheadI (y : Int) : Int := (y - 1) * 365 + (y - 1) / 4 - (y - 1) / 100 + (y - 1) / 400
set_option maxHeartbeats 1000000 in
theorem ahead_any (y : Int) (w : World) (h1 : 1 ≤ y) (h2 : y ≤ 10000) :
    Calls Tryd.prog 33 #[.int .i64 y] w fun e w' => e = .returned (.int .i64 (aheadI y)) ∧ w = w' := by
  have e1 : IntKind.i64.wrap ((y - 1).tdiv 4) = (y - 1) / 4 := by rw [Int.tdiv_eq_ediv_of_nonneg (by omega)]; exact IntWalk.i64_in _ (by omega)
  have e2 : IntKind.i64.wrap ((y - 1).tdiv 100) = (y - 1) / 100 := by rw [Int.tdiv_eq_ediv_of_nonneg (by omega)]; exact IntWalk.i64_in _ (by omega)
  have e3 : IntKind.i64.wrap ((y - 1).tdiv 400) = (y - 1) / 400 := by rw [Int.tdiv_eq_ediv_of_nonneg (by omega)]; exact IntWalk.i64_in _ (by omega)
  go_enter Tryd.func33, Tryd.ntmps33
  go_wp2
  go_ret
  exact ⟨ret_int rfl, rfl⟩

/-- How many days the months of a year ahead of a month have. -/
def sumL (y : Int) : Nat → Int
  | 0 => 0
  | k + 1 => sumL y k + longI y (k + 1)
theorem sumL_bd (y : Int) (k : Nat) : 0 ≤ sumL y k ∧ sumL y k ≤ 31 * k := by
  induction k with
  | zero => simp [sumL]
  | succ k ih =>
    have := longI_bd y (k + 1)
    unfold sumL
    omega
theorem ahead_bd {y : Int} (h1 : 1601 ≤ y) (h2 : y ≤ 9999) : 0 ≤ aheadI y ∧ aheadI y ≤ 10000000 := by unfold aheadI; omega
/-- The document's number of a day. -/
def refDaysI (y m d : Int) : Int := aheadI y - aheadI 1970 + sumL y (m - 1).toNat + d - 1

set_option maxRecDepth 4000 in
set_option maxHeartbeats 2000000 in
theorem refDays_any (y m d : Int) (w : World) (hr : rightB y m d = true) :
    Calls Tryd.prog 16 #[.int .i64 y, .int .i64 m, .int .i64 d] w fun e w' => e = .returned (.int .i64 (refDaysI y m d)) ∧ Below w.heap.size w w' := by
  obtain ⟨⟨hy1, hy2⟩, ⟨hm1, hm2⟩, hd1, hd2⟩ := rightB_iff.1 hr
  have hlb := longI_bd y m
  have hd3 : d ≤ 31 := by omega
  have hab := ahead_bd hy1 hy2
  have h70 := Lib.hid (show aheadI 1970 = 719162 from rfl)
  have hfin := Lib.hid (show refDaysI y m d = aheadI y - 719162 + sumL y (m - 1).toNat + d - 1 from rfl)
  clear hr hlb hd2
  go_enter Tryd.func16, Tryd.ntmps16
  go_wp2_with fail
  refine (ahead_any y _ (by omega) (by omega)).mono ?_
  rintro e w' ⟨rfl, rfl⟩
  go_wp2_with fail
  refine (ahead_any 1970 _ (by omega) (by omega)).mono ?_
  rintro e w' ⟨rfl, rfl⟩
  rw [h70.out]
  generalize aheadI y = Y at *
  go_wp2
  go_loopw [7, 8] (fun n i wr => ∃ k : Nat, n = .int .i64 (Y - 719162 + sumL y k) ∧ i = .int .i64 ((k : Int) + 1) ∧ (k : Int) + 1 ≤ m ∧ Below w.heap.size w wr) (fun _ i _ => 13 - (intOf i).toNat)
  case atStart => exact ⟨0, by simp [sumL], rfl, by omega, Below.refl _ _⟩
  case round =>
    obtain ⟨k, rfl, rfl, hkm, hbel⟩ := hrel
    have hsb := sumL_bd y k
    by_cases hlt : (k : Int) + 1 < m
    · have hst := Lib.hid (show sumL y (k + 1) = sumL y k + longI y (k + 1) from rfl)
      go_wp2_with fail
      refine (refLong_any y ((k : Int) + 1) _ (by omega) (by omega)).mono ?_
      rintro e w1 ⟨rfl, hb⟩
      have hbel1 := bel_call hbel hb
      have hlb := longI_bd y ((k : Int) + 1)
      generalize longI y ((k : Int) + 1) = L at *
      generalize hsum : sumL y k = s0 at *
      clear hsum
      go_wp2
      go_roundw
      case rel => exact ⟨k + 1, by rw [hst.out]; congr 1; omega, by go_num, by omega, hbel1⟩
      case measure => simp [intOf]; omega
    · have hk : (m - 1).toNat = k := by omega
      rw [hk] at hfin
      generalize sumL y k = s0 at *
      have hni : ¬ (k : Int) + 1 < m := hlt
      go_wp2
      go_ret
      exact ⟨ret_int (by rw [hfin.out]), hbel⟩
end Go.Proofs.YtagiolhciplniaaDoor
