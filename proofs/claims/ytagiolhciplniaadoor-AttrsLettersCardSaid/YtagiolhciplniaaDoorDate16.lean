/-
  The laws of days: a day's number, and a number's day.
-/
import Derived.Test.YtagiolhciplniaaDoorDate15
namespace Go.Proofs.YtagiolhciplniaaDoor
open Go.RowKit
set_option linter.unusedVariables false

theorem era_lin (Y : Int) : Y / 400 * 146097 + (Y % 400 * 365 + Y % 400 / 4 - Y % 400 / 100) = Y * 365 + Y / 4 - Y / 100 + Y / 400 := by omega
theorem leap_no {y : Int} (hy : 0 ≤ y) (h : leapB y = false) : ¬ (y % 4 = 0 ∧ (¬ y % 100 = 0 ∨ y % 400 = 0)) := fun hh => by rw [(leap_iff hy).2 hh] at h; cases h
theorem refDays_eq {y m d : Int} (h : rightB y m d = true) : refDaysI y m d = daysI y m d := by
  obtain ⟨⟨hy1, hy2⟩, ⟨hm1, hm2⟩, hd1, hd2⟩ := rightB_iff.1 h
  have e1 := era_lin (y - 1)
  have e2 := era_lin y
  have e70 : aheadI 1970 = 719162 := rfl
  have hs : ∀ k : Nat, sumL y (k + 1) = sumL y k + longI y (k + 1) := fun _ => rfl
  have h0 : sumL y 0 = 0 := rfl
  have l1 : longI y 1 = 31 := rfl
  have l3 : longI y 3 = 31 := rfl
  have l4 : longI y 4 = 30 := rfl
  have l5 : longI y 5 = 31 := rfl
  have l6 : longI y 6 = 30 := rfl
  have l7 : longI y 7 = 31 := rfl
  have l8 : longI y 8 = 31 := rfl
  have l9 : longI y 9 = 30 := rfl
  have l10 : longI y 10 = 31 := rfl
  have l11 : longI y 11 = 30 := rfl
  have s1 : sumL y 1 = 31 := by rw [hs 0, h0]; exact congrArg (0 + ·) l1
  have s2 : sumL y 2 = 31 + longI y 2 := by rw [hs 1, s1]; rfl
  have s3 : sumL y 3 = 62 + longI y 2 := by rw [hs 2, s2, show longI y ((2 : Nat) + 1) = 31 from l3]; omega
  have s4 : sumL y 4 = 92 + longI y 2 := by rw [hs 3, s3, show longI y ((3 : Nat) + 1) = 30 from l4]; omega
  have s5 : sumL y 5 = 123 + longI y 2 := by rw [hs 4, s4, show longI y ((4 : Nat) + 1) = 31 from l5]; omega
  have s6 : sumL y 6 = 153 + longI y 2 := by rw [hs 5, s5, show longI y ((5 : Nat) + 1) = 30 from l6]; omega
  have s7 : sumL y 7 = 184 + longI y 2 := by rw [hs 6, s6, show longI y ((6 : Nat) + 1) = 31 from l7]; omega
  have s8 : sumL y 8 = 215 + longI y 2 := by rw [hs 7, s7, show longI y ((7 : Nat) + 1) = 31 from l8]; omega
  have s9 : sumL y 9 = 245 + longI y 2 := by rw [hs 8, s8, show longI y ((8 : Nat) + 1) = 30 from l9]; omega
  have s10 : sumL y 10 = 276 + longI y 2 := by rw [hs 9, s9, show longI y ((9 : Nat) + 1) = 31 from l10]; omega
  have s11 : sumL y 11 = 306 + longI y 2 := by rw [hs 10, s10, show longI y ((10 : Nat) + 1) = 30 from l11]; omega
  have hl2 : (longI y 2 = 29 ∧ (y % 4 = 0 ∧ (¬ y % 100 = 0 ∨ y % 400 = 0))) ∨ (longI y 2 = 28 ∧ ¬ (y % 4 = 0 ∧ (¬ y % 100 = 0 ∨ y % 400 = 0))) := by
    rcases long_cases (y := y) (m := 2) (by omega) with ⟨_, b, g⟩ | ⟨_, b, g⟩ | ⟨a, g⟩ | ⟨a, g⟩
    · exact .inl ⟨g, (leap_iff (by omega)).1 b⟩
    · exact .inr ⟨g, leap_no (by omega) b⟩
    · omega
    · omega
  have hA : y * 365 + y / 4 - y / 100 + y / 400 = aheadI y + 337 + longI y 2 := by
    unfold aheadI
    rcases hl2 with ⟨g, hl⟩ | ⟨g, hl⟩ <;> (rw [g]; omega)
  have hB : aheadI y = (y - 1) * 365 + (y - 1) / 4 - (y - 1) / 100 + (y - 1) / 400 := rfl
  clear hs h0 l1 l3 l4 l5 l6 l7 l8 l9 l10 l11 hl2
  have hmc : m = 1 ∨ m = 2 ∨ m = 3 ∨ m = 4 ∨ m = 5 ∨ m = 6 ∨ m = 7 ∨ m = 8 ∨ m = 9 ∨ m = 10 ∨ m = 11 ∨ m = 12 := by omega
  unfold refDaysI
  rw [e70]
  have hlo : m < 3 → daysI y m d = (y - 1) * 365 + (y - 1) / 4 - (y - 1) / 100 + (y - 1) / 400 + ((153 * (m + 9) + 2) / 5 + d - 1) - 719468 := fun h3 => by
    unfold daysI
    simp only [h3, if_true]
    rw [show m - 3 + 12 = m + 9 by omega, ← e1]
    omega
  have hhi : ¬ m < 3 → daysI y m d = y * 365 + y / 4 - y / 100 + y / 400 + ((153 * (m - 3) + 2) / 5 + d - 1) - 719468 := fun h3 => by
    unfold daysI
    simp only [h3, if_false]
    rw [← e2]
    omega
  rw [← hB] at hlo
  rw [hA] at hhi
  clear e1 e2 hA hB
  generalize aheadI y = A at *
  generalize longI y 2 = L at *
  rcases hmc with rfl | rfl | rfl | rfl | rfl | rfl | rfl | rfl | rfl | rfl | rfl | rfl
  · rw [hlo (by omega), show ((1 : Int) - 1).toNat = 0 from rfl, show sumL y 0 = 0 from rfl]; omega
  · rw [hlo (by omega), show ((2 : Int) - 1).toNat = 1 from rfl, s1]; omega
  · rw [hhi (by omega), show ((3 : Int) - 1).toNat = 2 from rfl, s2]; omega
  · rw [hhi (by omega), show ((4 : Int) - 1).toNat = 3 from rfl, s3]; omega
  · rw [hhi (by omega), show ((5 : Int) - 1).toNat = 4 from rfl, s4]; omega
  · rw [hhi (by omega), show ((6 : Int) - 1).toNat = 5 from rfl, s5]; omega
  · rw [hhi (by omega), show ((7 : Int) - 1).toNat = 6 from rfl, s6]; omega
  · rw [hhi (by omega), show ((8 : Int) - 1).toNat = 7 from rfl, s7]; omega
  · rw [hhi (by omega), show ((9 : Int) - 1).toNat = 8 from rfl, s8]; omega
  · rw [hhi (by omega), show ((10 : Int) - 1).toNat = 9 from rfl, s9]; omega
  · rw [hhi (by omega), show ((11 : Int) - 1).toNat = 10 from rfl, s10]; omega
  · rw [hhi (by omega), show ((12 : Int) - 1).toNat = 11 from rfl, s11]; omega

set_option maxRecDepth 4000 in
set_option maxHeartbeats 4000000 in
theorem lawDays_any (y m d : Int) (w : World) (hwy : (Lit.int .i64 y).wf = true) (hwm : (Lit.int .i64 m).wf = true) (hwd : (Lit.int .i64 d).wf = true) (hm : Mon w) :
    Calls Tryd.prog 3 #[.int .i64 y, .int .i64 m, .int .i64 d] w fun e w' => e = .returned (.bool true) ∧ Below w.heap.size w w' := by
  have hy := i64_wf hwy
  have hmm := i64_wf hwm
  have hd := i64_wf hwd
  cases hr : rightB y m d
  · have hT := Lib.hid (show daysT y m d = (0, 4) by unfold daysT; rw [hr]; rfl)
    have hR := Lib.hid hr
    clear hr
    go_enter Tryd.func3, Tryd.ntmps3
    go_wp2_with fail
    refine (days_any y m d _ hy hmm hd).mono ?_
    rintro e w' ⟨rfl, rfl⟩
    rw [hT.out]
    go_wp2_with fail
    refine (refRight7_any y m d _).mono ?_
    rintro e w1 ⟨rfl, hb1⟩
    rw [hR.out]
    have hm1 := hm.next hb1
    go_wp2_with fail
    refine (awake07_any _ hm1).mono ?_
    rintro e w2 ⟨rfl, hb2⟩
    have hb := bel_call hb1 hb2
    go_wp2
    go_ret
    exact ⟨rfl, hb⟩
  · obtain ⟨⟨hy1, hy2⟩, ⟨hm1, hm2⟩, hd1, hd2⟩ := rightB_iff.1 hr
    have hlb := longI_bd y m
    obtain ⟨hC, hD1, hD2⟩ := civil_days hr
    obtain ⟨hnA, hnB, hnC, hnD⟩ := days_next hr
    have hT := Lib.hid (show daysT y m d = (daysI y m d, 0) by unfold daysT; rw [hr]; rfl)
    have hR := Lib.hid hr
    have hRD := Lib.hid (refDays_eq hr)
    have hcs : (d < longI y m ∧ civilT (daysI y m d + 1) = (y, m, d + 1, 0)) ∨ (¬ d < longI y m ∧ m < 12 ∧ civilT (daysI y m d + 1) = (y, m + 1, 1, 0)) ∨
        (¬ d < longI y m ∧ ¬ m < 12 ∧ y < 9999 ∧ civilT (daysI y m d + 1) = (y + 1, 1, 1, 0)) ∨ (¬ d < longI y m ∧ ¬ m < 12 ∧ ¬ y < 9999 ∧ civilT (daysI y m d + 1) = (0, 0, 0, 4)) := by
      by_cases g1 : d < longI y m
      · obtain ⟨q1, q2⟩ := hnA g1
        exact .inl ⟨g1, by rw [← q2]; exact (civil_days q1).1⟩
      · have g1' : d = longI y m := by omega
        by_cases g2 : m < 12
        · obtain ⟨q1, q2⟩ := hnB g1' g2
          exact .inr (.inl ⟨g1, g2, by rw [← q2]; exact (civil_days q1).1⟩)
        · by_cases g3 : y < 9999
          · obtain ⟨q1, q2⟩ := hnC g1' (by omega) g3
            have hm12 : m = 12 := by omega
            exact .inr (.inr (.inl ⟨g1, g2, g3, by rw [← q2]; exact (civil_days q1).1⟩))
          · have := hnD g1' (by omega) (by omega)
            exact .inr (.inr (.inr ⟨g1, g2, g3, if_pos (by omega)⟩))
    clear hnA hnB hnC hnD
    have hCH := Lib.hid hC
    clear hC hd2
    generalize daysI y m d = D at *
    rcases hcs with ⟨g1, hC2⟩ | ⟨g1, g2, hC2⟩ | ⟨g1, g2, g3, hC2⟩ | ⟨g1, g2, g3, hC2⟩
    all_goals
      have hC2H := Lib.hid hC2
      clear hC2
      go_enter Tryd.func3, Tryd.ntmps3
      go_wp2_with fail
      refine (days_any y m d _ hy hmm hd).mono ?_
      rintro e w' ⟨rfl, rfl⟩
      rw [hT.out]
      go_wp2_with fail
      refine (refRight7_any y m d _).mono ?_
      rintro e w1 ⟨rfl, hb1⟩
      rw [hR.out]
      go_wp2_with fail
      refine (civil_any D _).mono ?_
      rintro e w' ⟨rfl, rfl⟩
      rw [hCH.out]
      go_wp2_with fail
      refine (refDays_any y m d _ hR.out).mono ?_
      rintro e w2 ⟨rfl, hb2⟩
      rw [hRD.out]
      have hbel2 := bel_call hb1 hb2
      clear hb1 hb2
      go_wp2_with fail
      refine (civil_any (D + 1) _).mono ?_
      rintro e w' ⟨rfl, rfl⟩
      rw [hC2H.out]
      go_wp2_with fail
      refine (refLong_any y m _ hm1 hm2).mono ?_
      rintro e w3 ⟨rfl, hb3⟩
      have hbel3 := bel_call hbel2 hb3
      have hmon3 := hm.next hbel3
      clear hbel2 hb3
      generalize longI y m = L at *
      go_wp2_with fail
      refine (awake07_any _ hmon3).mono ?_
      rintro e w4 ⟨rfl, hb4⟩
      have hb := bel_call hbel3 hb4
      go_wp2
      go_ret
      exact ⟨rfl, hb⟩

theorem week_mod (n : Int) : (weekI n - 4 - n).tmod 7 = 0 ∧ 0 ≤ weekI n ∧ weekI n ≤ 6 := by
  have h1 := Int.mul_tdiv_add_tmod n 7
  have h2 : -7 < n.tmod 7 ∧ n.tmod 7 < 7 := ⟨by have := Int.lt_tmod_of_pos n (by decide : (0:Int) < 7); omega, Int.tmod_lt_of_pos n (by decide)⟩
  have h3 : (7 : Int) ∣ weekI n - 4 - n := by
    unfold weekI
    omega
  refine ⟨Int.tmod_eq_zero_of_dvd h3, ?_, ?_⟩
  · unfold weekI; omega
  · unfold weekI; omega

set_option maxRecDepth 4000 in
set_option maxHeartbeats 4000000 in
theorem lawCivil_any (n : Int) (w : World) (hwn : (Lit.int .i64 n).wf = true) (hm : Mon w) :
    Calls Tryd.prog 4 #[.int .i64 n] w fun e w' => e = .returned (.bool true) ∧ Below w.heap.size w w' := by
  have hn := i64_wf hwn
  have hR1 := Lib.hid (show rightB 1601 1 1 = true from by decide)
  have hR2 := Lib.hid (show rightB 9999 12 31 = true from by decide)
  have hD1 := Lib.hid (show refDaysI 1601 1 1 = -134774 from by decide)
  have hD2 := Lib.hid (show refDaysI 9999 12 31 = 2932896 from by decide)
  by_cases h1 : n < -134774
  · have hT := Lib.hid (show civilT n = (0, 0, 0, 4) from if_pos (.inl h1))
    go_enter Tryd.func4, Tryd.ntmps4
    go_wp2_with fail
    refine (civil_any n _).mono ?_
    rintro e w' ⟨rfl, rfl⟩
    rw [hT.out]
    go_wp2_with fail
    refine (refDays_any 1601 1 1 _ hR1.out).mono ?_
    rintro e w1 ⟨rfl, hb1⟩
    rw [hD1.out]
    have hm1 := hm.next hb1
    go_wp2_with fail
    refine (awake07_any _ hm1).mono ?_
    rintro e w2 ⟨rfl, hb2⟩
    have hb := bel_call hb1 hb2
    go_wp2
    go_ret
    exact ⟨rfl, hb⟩
  by_cases h2 : 2932896 < n
  · have hT := Lib.hid (show civilT n = (0, 0, 0, 4) from if_pos (.inr h2))
    go_enter Tryd.func4, Tryd.ntmps4
    go_wp2_with fail
    refine (civil_any n _).mono ?_
    rintro e w' ⟨rfl, rfl⟩
    rw [hT.out]
    go_wp2_with fail
    refine (refDays_any 1601 1 1 _ hR1.out).mono ?_
    rintro e w1 ⟨rfl, hb1⟩
    rw [hD1.out]
    go_wp2_with fail
    refine (refDays_any 9999 12 31 _ hR2.out).mono ?_
    rintro e w2 ⟨rfl, hb2⟩
    rw [hD2.out]
    have hbel2 := bel_call hb1 hb2
    have hm2 := hm.next hbel2
    go_wp2_with fail
    refine (awake07_any _ hm2).mono ?_
    rintro e w3 ⟨rfl, hb3⟩
    have hb := bel_call hbel2 hb3
    go_wp2
    go_ret
    exact ⟨rfl, hb⟩
  have h1' : -134774 ≤ n := by omega
  have h2' : n ≤ 2932896 := by omega
  obtain ⟨hc0, hrt, hdd⟩ := days_civil h1' h2'
  obtain ⟨⟨hy1, hy2⟩, ⟨hm1, hm2⟩, hd1, hd2⟩ := rightB_iff.1 hrt
  have hlb := longI_bd (civilT n).1 (civilT n).2.1
  have hd3 : (civilT n).2.2.1 ≤ 31 := by omega
  obtain ⟨hw1, hw2, hw3⟩ := week_mod n
  have hwk := Lib.hid (show (n.tmod 7 + 11) % 7 = weekI n from rfl)
  have hT := Lib.hid (show daysT (civilT n).1 (civilT n).2.1 (civilT n).2.2.1 = (n, 0) by unfold daysT; rw [hrt, hdd]; rfl)
  have hrH := Lib.hid hrt
  clear hrt hdd hlb hd2 h1 h2
  generalize hcv : civilT n = cv at *
  have hcvH := Lib.hid hcv
  clear hcv
  obtain ⟨y, m, d, ee⟩ := cv
  simp only at hc0 hy1 hy2 hm1 hm2 hd1 hd3 hT hrH
  subst hc0
  generalize weekI n = W at *
  have hw1H : (W - 4 - n).tmod 7 = 0 := hw1
  go_enter Tryd.func4, Tryd.ntmps4
  go_wp2_with fail
  refine (civil_any n _).mono ?_
  rintro e w' ⟨rfl, rfl⟩
  rw [hcvH.out]
  go_wp2_with fail
  refine (refDays_any 1601 1 1 _ hR1.out).mono ?_
  rintro e w1 ⟨rfl, hb1⟩
  rw [hD1.out]
  go_wp2_with fail
  refine (refDays_any 9999 12 31 _ hR2.out).mono ?_
  rintro e w2 ⟨rfl, hb2⟩
  rw [hD2.out]
  have hbel2 := bel_call hb1 hb2
  clear hb1 hb2
  go_wp2_with fail
  refine (days_any y m d _ (by omega) (by omega) (by omega)).mono ?_
  rintro e w' ⟨rfl, rfl⟩
  rw [hT.out]
  go_wp2_with fail
  refine (week_any n _ (by omega) (by omega)).mono ?_
  rintro e w' ⟨rfl, rfl⟩
  rw [hwk.out]
  go_wp2_with fail
  refine (refRight7_any y m d _).mono ?_
  rintro e w3 ⟨rfl, hb3⟩
  rw [hrH.out]
  have hbel3 := bel_call hbel2 hb3
  have hmon3 := hm.next hbel3
  go_wp2_with fail
  refine (awake07_any _ hmon3).mono ?_
  rintro e w4 ⟨rfl, hb4⟩
  have hb := bel_call hbel3 hb4
  go_wp2
  go_ret
  exact ⟨rfl, hb⟩
end Go.Proofs.YtagiolhciplniaaDoor
