/-
  Joined texts: DateCal2 Date12 Date13 Date14.
-/
import Derived.Test.YtgfoaopfdpclhaaGreatDoorBu3
import Derived.Test.YtgfoaopfdpclhaaGreatDoorBu6
import Derived.Deep.RegionHeld3
import Derived.ProofKit
import Derived.LaidMore
import Derived.OpenShut
import Derived.MakeChecks
import Derived.Stop.Joined
namespace Go.Proofs.YtgfoaopfdpclhaaGreatDoor
set_option linter.unusedVariables false
set_option maxRecDepth 100000

theorem leap_iff {y : Int} (hy : 0 ≤ y) : leapB y = true ↔ y % 4 = 0 ∧ (¬ y % 100 = 0 ∨ y % 400 = 0) := by
  unfold leapB
  rw [Int.tmod_eq_emod_of_nonneg hy, Int.tmod_eq_emod_of_nonneg hy, Int.tmod_eq_emod_of_nonneg hy]
  simp
theorem rightB_iff {y m d : Int} : rightB y m d = true ↔ (1601 ≤ y ∧ y ≤ 9999) ∧ (1 ≤ m ∧ m ≤ 12) ∧ 1 ≤ d ∧ d ≤ longI y m := by
  unfold rightB
  simp only [Bool.and_eq_true, decide_eq_true_eq]
  constructor
  · rintro ⟨⟨⟨⟨⟨a, b⟩, c⟩, e⟩, f⟩, g⟩; exact ⟨⟨a, b⟩, ⟨c, e⟩, f, g⟩
  · rintro ⟨⟨a, b⟩, ⟨c, e⟩, f, g⟩; exact ⟨⟨⟨⟨⟨a, b⟩, c⟩, e⟩, f⟩, g⟩
/-- How long the months are. -/
theorem long_cases {y m : Int} (hm : 1 ≤ m ∧ m ≤ 12) :
    (m = 2 ∧ leapB y = true ∧ longI y m = 29) ∨ (m = 2 ∧ leapB y = false ∧ longI y m = 28) ∨ ((m = 4 ∨ m = 6 ∨ m = 9 ∨ m = 11) ∧ longI y m = 30) ∨ ((m = 1 ∨ m = 3 ∨ m = 5 ∨ m = 7 ∨ m = 8 ∨ m = 10 ∨ m = 12) ∧ longI y m = 31) := by
  unfold longI
  by_cases h2 : m = 2
  · rw [if_pos h2]
    cases leapB y
    · exact .inr (.inl ⟨h2, rfl, rfl⟩)
    · exact .inl ⟨h2, rfl, rfl⟩
  · rw [if_neg h2]
    by_cases h4 : m = 4 ∨ m = 6 ∨ m = 9 ∨ m = 11
    · rw [if_pos h4]; exact .inr (.inr (.inl ⟨h4, rfl⟩))
    · rw [if_neg h4]; exact .inr (.inr (.inr ⟨by omega, rfl⟩))

/-- A day by years that begin in March. -/
theorem civil_core {e w m d : Int} (hw : 0 ≤ w ∧ w ≤ 399) (hm : 0 ≤ m ∧ m ≤ 11) (hd : 1 ≤ d ∧ d ≤ 31) (h30 : m = 1 ∨ m = 3 ∨ m = 6 ∨ m = 8 → d ≤ 30) (hf : m = 11 → d ≤ 29)
    (hl : m = 11 → d = 29 → w % 4 = 3 ∧ (¬ w % 100 = 99 ∨ w = 399)) :
    let n := e * 146097 + (w * 365 + w / 4 - w / 100 + (153 * m + 2) / 5 + d - 1) - 719468
    civY n = w ∧ civM n = m ∧ civR n = (153 * m + 2) / 5 + d - 1 ∧ (n + 719468) / 146097 = e ∧ 0 ≤ civD n ∧ civD n ≤ 146096 := by
  intro n
  obtain ⟨c, q, t, hc1, hc2, hq1, hq2, ht1, ht2, hwe⟩ : ∃ c q t : Int, 0 ≤ c ∧ c ≤ 3 ∧ 0 ≤ q ∧ q ≤ 24 ∧ 0 ≤ t ∧ t ≤ 3 ∧ w = 100 * c + 4 * q + t :=
    ⟨w / 100, w % 100 / 4, w % 4, by omega, by omega, by omega, by omega, by omega, by omega, by omega⟩
  obtain ⟨r, hr⟩ : ∃ r, r = (153 * m + 2) / 5 + d - 1 := ⟨_, rfl⟩
  have hr1 : 0 ≤ r := by omega
  have hr2 : r ≤ 365 := by omega
  have hx : r = 365 → t = 3 ∧ (q < 24 ∨ c = 3) := by
    intro h
    have hm' : m = 11 ∧ d = 29 := by omega
    have := hl hm'.1 hm'.2
    omega
  obtain ⟨N, hN⟩ : ∃ N, N = w * 365 + w / 4 - w / 100 + r := ⟨_, rfl⟩
  have hN2 : N = 36524 * c + 1461 * q + 365 * t + r := by omega
  have hN3 : 0 ≤ N ∧ N ≤ 146096 := by omega
  have hn : n = e * 146097 + N - 719468 := by show e * 146097 + (w * 365 + w / 4 - w / 100 + (153 * m + 2) / 5 + d - 1) - 719468 = _; rw [hN, hr]; omega
  have hD : civD n = N := by unfold civD; rw [hn]; omega
  have hE : (n + 719468) / 146097 = e := by rw [hn]; omega
  have hY : civY n = w := by unfold civY; rw [hD, era_year hc1 hc2 hq1 hq2 ht1 ht2 hr1 hr2 hN2 hx, hwe]
  have hR : civR n = r := by unfold civR; rw [hY, hD, hwe]; exact era_day hc1 hc2 hq1 hq2 ht1 ht2 hN2
  have hM : civM n = m := by
    unfold civM
    rw [hR]
    have hmc : m = 0 ∨ m = 1 ∨ m = 2 ∨ m = 3 ∨ m = 4 ∨ m = 5 ∨ m = 6 ∨ m = 7 ∨ m = 8 ∨ m = 9 ∨ m = 10 ∨ m = 11 := by omega
    rcases hmc with rfl | rfl | rfl | rfl | rfl | rfl | rfl | rfl | rfl | rfl | rfl | rfl <;> omega
  exact ⟨hY, hM, by rw [hR, hr], hE, by rw [hD]; exact hN3.1, by rw [hD]; exact hN3.2⟩

theorem long_core {y m d : Int} (hy : 0 ≤ y) (hm : 1 ≤ m ∧ m ≤ 12) (hd : 1 ≤ d ∧ d ≤ longI y m) :
    d ≤ 31 ∧ (m = 4 ∨ m = 6 ∨ m = 9 ∨ m = 11 → d ≤ 30) ∧ (m = 2 → d ≤ 29) ∧ (m = 2 → d = 29 → y % 4 = 0 ∧ (¬ y % 100 = 0 ∨ y % 400 = 0)) := by
  rcases long_cases (y := y) hm with ⟨a, b, c⟩ | ⟨a, b, c⟩ | ⟨a, c⟩ | ⟨a, c⟩
  · have := (leap_iff hy).1 b
    rw [c] at hd
    exact ⟨by omega, by omega, by omega, fun _ _ => this⟩
  · rw [c] at hd
    exact ⟨by omega, by omega, by omega, by omega⟩
  · rw [c] at hd
    exact ⟨by omega, by omega, by omega, by omega⟩
  · rw [c] at hd
    exact ⟨by omega, by omega, by omega, by omega⟩

theorem range_core {Y f : Int} (h : (1600 ≤ Y ∧ 306 ≤ f ∧ f ≤ 365 ∧ Y ≤ 9998) ∨ (1601 ≤ Y ∧ 0 ≤ f ∧ f ≤ 305 ∧ Y ≤ 9999)) :
    -134774 ≤ Y / 400 * 146097 + (Y % 400 * 365 + Y % 400 / 4 - Y % 400 / 100 + f) - 719468 ∧ Y / 400 * 146097 + (Y % 400 * 365 + Y % 400 / 4 - Y % 400 / 100 + f) - 719468 ≤ 2932896 := by
  obtain ⟨c, q, t, hc1, hc2, hq1, hq2, ht1, ht2, hwe⟩ : ∃ c q t : Int, 0 ≤ c ∧ c ≤ 3 ∧ 0 ≤ q ∧ q ≤ 24 ∧ 0 ≤ t ∧ t ≤ 3 ∧ Y % 400 = 100 * c + 4 * q + t :=
    ⟨Y % 400 / 100, Y % 400 % 100 / 4, Y % 400 % 4, by omega, by omega, by omega, by omega, by omega, by omega, by omega⟩
  have e1 : Y % 400 / 4 = 25 * c + q := by omega
  have e2 : Y % 400 / 100 = c := by omega
  have hY := Int.mul_ediv_add_emod Y 400
  rw [e1, e2, hwe]
  rw [hwe] at hY
  generalize Y / 400 = e at *
  have he : 4 ≤ e ∧ e ≤ 24 := by omega
  clear e1 e2 hwe
  have hcs : e = 4 ∨ e = 24 ∨ (5 ≤ e ∧ e ≤ 23) := by omega
  rcases hcs with rfl | rfl | he
  · omega
  · omega
  · omega
/-- The day of a right day's number is that day; and its bounds. -/
theorem civil_days {y m d : Int} (h : rightB y m d = true) : civilT (daysI y m d) = (y, m, d, 0) ∧ -134774 ≤ daysI y m d ∧ daysI y m d ≤ 2932896 := by
  obtain ⟨⟨hy1, hy2⟩, hm, hd⟩ := rightB_iff.1 h
  obtain ⟨hd31, hd30, hdf, hdl⟩ := long_core (by omega) hm hd
  by_cases h3 : m < 3
  · have hD : daysI y m d = (y - 1) / 400 * 146097 + ((y - 1) % 400 * 365 + (y - 1) % 400 / 4 - (y - 1) % 400 / 100 + (153 * (m + 9) + 2) / 5 + d - 1) - 719468 := by
      unfold daysI; simp only [h3, if_true]; rw [show m - 3 + 12 = m + 9 by omega]
    obtain ⟨hY, hM, hR, hE, hb1, hb2⟩ := civil_core (e := (y - 1) / 400) (w := (y - 1) % 400) (m := m + 9) (d := d) (by omega) (by omega) (by omega) (by omega) (by omega) (fun h1 h2 => by have := hdl (by omega) h2; omega)
    rw [← hD] at hY hM hR hE hb1 hb2
    have hr : -134774 ≤ daysI y m d ∧ daysI y m d ≤ 2932896 := by
      have := range_core (Y := y - 1) (f := (153 * (m + 9) + 2) / 5 + d - 1) (.inl ⟨by omega, by omega, by omega, by omega⟩)
      rw [hD]
      omega
    refine ⟨?_, hr⟩
    unfold civilT
    rw [if_neg (by omega), hM, hY, hR, hE, if_pos (by omega)]
    refine Prod.ext ?_ (Prod.ext ?_ (Prod.ext ?_ rfl))
    · show (y - 1) / 400 * 400 + (y - 1) % 400 + 1 = y; omega
    · show m + 9 + 3 - 12 = m; omega
    · show (153 * (m + 9) + 2) / 5 + d - 1 - (153 * (m + 9) + 2) / 5 + 1 = d; omega
  · have hD : daysI y m d = y / 400 * 146097 + (y % 400 * 365 + y % 400 / 4 - y % 400 / 100 + (153 * (m - 3) + 2) / 5 + d - 1) - 719468 := by
      unfold daysI; simp only [h3, if_false]
    obtain ⟨hY, hM, hR, hE, hb1, hb2⟩ := civil_core (e := y / 400) (w := y % 400) (m := m - 3) (d := d) (by omega) (by omega) (by omega) (by omega) (by omega) (by omega)
    rw [← hD] at hY hM hR hE hb1 hb2
    have hr : -134774 ≤ daysI y m d ∧ daysI y m d ≤ 2932896 := by
      have := range_core (Y := y) (f := (153 * (m - 3) + 2) / 5 + d - 1) (.inr ⟨by omega, by omega, by omega, by omega⟩)
      rw [hD]
      omega
    refine ⟨?_, hr⟩
    unfold civilT
    rw [if_neg (by omega), hM, hY, hR, hE, if_neg (by omega)]
    refine Prod.ext ?_ (Prod.ext ?_ (Prod.ext ?_ rfl))
    · show y / 400 * 400 + y % 400 = y; omega
    · show m - 3 + 3 = m; omega
    · show (153 * (m - 3) + 2) / 5 + d - 1 - (153 * (m - 3) + 2) / 5 + 1 = d; omega

/-- The number of a number's day is that number, and the day is right. -/
theorem days_civil {n : Int} (h1 : -134774 ≤ n) (h2 : n ≤ 2932896) :
    (civilT n).2.2.2 = 0 ∧ rightB (civilT n).1 (civilT n).2.1 (civilT n).2.2.1 = true ∧ daysI (civilT n).1 (civilT n).2.1 (civilT n).2.2.1 = n := by
  have hD1 : 0 ≤ civD n := by unfold civD; omega
  have hD2 : civD n ≤ 146096 := by unfold civD; omega
  obtain ⟨c, q, t, r, hc1, hc2, hq1, hq2, ht1, ht2, hr1, hr2, hd, hx⟩ := era_parts _ hD1 hD2
  have hY : civY n = 100 * c + 4 * q + t := by unfold civY; exact era_year hc1 hc2 hq1 hq2 ht1 ht2 hr1 hr2 hd hx
  have hR : civR n = r := by unfold civR; rw [hY]; exact era_day hc1 hc2 hq1 hq2 ht1 ht2 hd
  obtain ⟨m, hm⟩ : ∃ m, m = (5 * r + 2) / 153 := ⟨_, rfl⟩
  have hM : civM n = m := by unfold civM; rw [hR, hm]
  have hmb : 0 ≤ m ∧ m ≤ 11 := by omega
  obtain ⟨e, he⟩ : ∃ e, e = (n + 719468) / 146097 := ⟨_, rfl⟩
  obtain ⟨w, hw⟩ : ∃ w, w = 100 * c + 4 * q + t := ⟨_, rfl⟩
  have hn : n + 719468 = e * 146097 + civD n := by unfold civD; omega
  have hwb : 0 ≤ w ∧ w ≤ 399 := by omega
  have hw4 : w / 4 = 25 * c + q := by omega
  have hw1 : w / 100 = c := by omega
  obtain ⟨d, hdd⟩ : ∃ d, d = r - (153 * m + 2) / 5 + 1 := ⟨_, rfl⟩
  have hdb : 1 ≤ d ∧ d ≤ 31 ∧ ((m = 1 ∨ m = 3 ∨ m = 6 ∨ m = 8) → d ≤ 30) ∧ (m = 11 → d ≤ 29) ∧ (m = 11 → d = 29 → r = 365) := by omega
  obtain ⟨hdb1, hdb2, hdb3, hdb4, hdb5⟩ := hdb
  have hers : e = 4 ∨ (5 ≤ e ∧ e ≤ 23) ∨ e = 24 := by omega
  have hT : civilT n = if 12 < m + 3 then (e * 400 + w + 1, m + 3 - 12, d, 0) else (e * 400 + w, m + 3, d, 0) := by
    unfold civilT
    rw [if_neg (by omega), hM, hY, hR, ← he, ← hw, ← hdd]
  have hyb : (10 ≤ m → 1601 ≤ e * 400 + w + 1 ∧ e * 400 + w + 1 ≤ 9999) ∧ (m < 10 → 1601 ≤ e * 400 + w ∧ e * 400 + w ≤ 9999) := by
    rcases hers with rfl | ⟨he1, he2⟩ | rfl
    · constructor
      · intro hm10; omega
      · intro hm10
        have : 0 < w := by
          by_cases hw0 : w = 0
          · omega
          · omega
        omega
    · omega
    · constructor
      · intro hm10
        have : w ≤ 398 := by
          by_cases hw0 : w = 399
          · omega
          · omega
        omega
      · omega
  rw [hT]
  by_cases h10 : 12 < m + 3
  · rw [if_pos h10]
    refine ⟨rfl, rightB_iff.2 ⟨hyb.1 (by omega), ⟨by show 1 ≤ m + 3 - 12; omega, by show m + 3 - 12 ≤ 12; omega⟩, hdb1, ?_⟩, ?_⟩
    · show d ≤ longI (e * 400 + w + 1) (m + 3 - 12)
      rcases long_cases (y := e * 400 + w + 1) (m := m + 3 - 12) (by omega) with ⟨a, b, g⟩ | ⟨a, b, g⟩ | ⟨a, g⟩ | ⟨a, g⟩
      · omega
      · by_cases h29 : d = 29
        · have h365 := hdb5 (by omega) h29
          have := hx h365
          have hle : leapB (e * 400 + w + 1) = true := (leap_iff (by omega)).2 (by omega)
          rw [hle] at b; cases b
        · omega
      · omega
      · omega
    · show daysI (e * 400 + w + 1) (m + 3 - 12) d = n
      have h3 : m + 3 - 12 < 3 := by omega
      unfold daysI
      simp only [h3, if_true]
      rw [show e * 400 + w + 1 - 1 = e * 400 + w by omega, show m + 3 - 12 - 3 + 12 = m by omega, show (e * 400 + w) / 400 = e by omega, show (e * 400 + w) % 400 = w by omega]
      omega
  · rw [if_neg h10]
    refine ⟨rfl, rightB_iff.2 ⟨hyb.2 (by omega), ⟨by show 1 ≤ m + 3; omega, by show m + 3 ≤ 12; omega⟩, hdb1, ?_⟩, ?_⟩
    · show d ≤ longI (e * 400 + w) (m + 3)
      rcases long_cases (y := e * 400 + w) (m := m + 3) (by omega) with ⟨a, b, g⟩ | ⟨a, b, g⟩ | ⟨a, g⟩ | ⟨a, g⟩
      · omega
      · omega
      · omega
      · omega
    · show daysI (e * 400 + w) (m + 3) d = n
      have h3 : ¬ m + 3 < 3 := by omega
      unfold daysI
      simp only [h3, if_false]
      rw [show m + 3 - 3 = m by omega, show (e * 400 + w) / 400 = e by omega, show (e * 400 + w) % 400 = w by omega]
      omega

/-- The next day's number. -/
theorem days_next {y m d : Int} (h : rightB y m d = true) :
    (d < longI y m → rightB y m (d + 1) = true ∧ daysI y m (d + 1) = daysI y m d + 1) ∧
    (d = longI y m → m < 12 → rightB y (m + 1) 1 = true ∧ daysI y (m + 1) 1 = daysI y m d + 1) ∧
    (d = longI y m → m = 12 → y < 9999 → rightB (y + 1) 1 1 = true ∧ daysI (y + 1) 1 1 = daysI y m d + 1) ∧
    (d = longI y m → m = 12 → y = 9999 → daysI y m d = 2932896) := by
  obtain ⟨⟨hy1, hy2⟩, hm, hd⟩ := rightB_iff.1 h
  refine ⟨fun hl => ⟨rightB_iff.2 ⟨⟨hy1, hy2⟩, hm, by omega, by omega⟩, ?_⟩, fun hl hm2 => ⟨rightB_iff.2 ⟨⟨hy1, hy2⟩, by omega, by omega, by have := longI_bd y (m + 1); omega⟩, ?_⟩,
    fun hl hm2 hy => ⟨rightB_iff.2 ⟨by omega, by omega, by omega, by have := longI_bd (y + 1) 1; omega⟩, ?_⟩, ?_⟩
  · unfold daysI
    by_cases h3 : m < 3
    · simp only [h3, if_true]; omega
    · simp only [h3, if_false]; omega
  · have hmc : m = 1 ∨ m = 2 ∨ m = 3 ∨ m = 4 ∨ m = 5 ∨ m = 6 ∨ m = 7 ∨ m = 8 ∨ m = 9 ∨ m = 10 ∨ m = 11 := by omega
    by_cases h2 : m = 2
    · subst h2
      unfold daysI
      simp only [show ((2 : Int) < 3) = True from eq_true (by omega), show ((2 : Int) + 1 < 3) = False from eq_false (by omega), if_true, if_false]
      rcases long_cases (y := y) (m := 2) (by omega) with ⟨a, b, g⟩ | ⟨a, b, g⟩ | ⟨a, g⟩ | ⟨a, g⟩
      · have := (leap_iff (by omega)).1 b
        rw [hl, g]
        by_cases h400 : y % 400 = 0
        · omega
        · have e1 : (y - 1) / 400 = y / 400 := by omega
          have e2 : (y - 1) % 400 = y % 400 - 1 := by omega
          rw [e1, e2]
          omega
      · have : ¬ (y % 4 = 0 ∧ (¬ y % 100 = 0 ∨ y % 400 = 0)) := fun hh => by rw [(leap_iff (by omega)).2 hh] at b; cases b
        rw [hl, g]
        have e1 : (y - 1) / 400 = y / 400 := by omega
        have e2 : (y - 1) % 400 = y % 400 - 1 := by omega
        rw [e1, e2]
        omega
      · omega
      · omega
    · rcases long_cases (y := y) (m := m) hm with ⟨a, b, g⟩ | ⟨a, b, g⟩ | ⟨a, g⟩ | ⟨a, g⟩
      · omega
      · omega
      · rcases a with rfl | rfl | rfl | rfl <;> (rw [hl, g]; unfold daysI; simp; try omega)
      · rcases a with rfl | rfl | rfl | rfl | rfl | rfl | rfl <;> first | omega | (rw [hl, g]; unfold daysI; simp; try omega)
  · subst hm2
    have hg : longI y 12 = 31 := rfl
    rw [hl, hg]
    unfold daysI
    simp
    omega
  · intro hl hm2 hy
    subst hm2; subst hy
    have hg : longI 9999 12 = 31 := rfl
    rw [hl, hg]
    decide
end Go.Proofs.YtgfoaopfdpclhaaGreatDoor
namespace Go.Proofs.YtgfoaopfdpclhaaGreatDoor
open Go.RowKit
set_option linter.unusedVariables false
set_option maxRecDepth 100000

def wkN : List (List UInt8) := [[83, 117, 110], [77, 111, 110], [84, 117, 101], [87, 101, 100], [84, 104, 117], [70, 114, 105], [83, 97, 116]]
def weekI (n : Int) : Int := (n.tmod 7 + 11) % 7
/-- A name with its first letter great. -/
def capL (l : List UInt8) : List UInt8 := (l.getD 0 0 - 32) :: l.drop 1
def textOf (wn mn : List UInt8) (y d R : Int) : List UInt8 :=
  wn ++ [44, 32] ++ twoL d ++ [32] ++ capL mn ++ [32] ++ twoL (y / 100) ++ twoL (y % 100) ++ [32] ++ twoL (R / 3600) ++ [58] ++ twoL (R / 60 % 60) ++ [58] ++ twoL (R % 60) ++ [32, 71, 77, 84]
def timeT (n : Int) : List UInt8 × Int :=
  if n / 86400 < -134774 ∨ 2932896 < n / 86400 then ([], 4)
  else (textOf (wkN.getD (weekI (n / 86400)).toNat []) (monN.getD ((civilT (n / 86400)).2.1 - 1).toNat []) (civilT (n / 86400)).1 (civilT (n / 86400)).2.2.1 (n % 86400), 0)
theorem mon_form (k : Nat) (h : k < 12) : ∃ a b c : UInt8, monN.getD k [] = [a, b, c] ∧ 97 ≤ a.toNat ∧ a.toNat ≤ 122 := by
  match k, h with
  | 0, _ | 1, _ | 2, _ | 3, _ | 4, _ | 5, _ | 6, _ | 7, _ | 8, _ | 9, _ | 10, _ | 11, _ => exact ⟨_, _, _, rfl, by decide, by decide⟩
  | n + 12, h => omega
theorem wk_form (k : Nat) (h : k < 7) : ∃ a b c : UInt8, wkN.getD k [] = [a, b, c] := by
  match k, h with
  | 0, _ | 1, _ | 2, _ | 3, _ | 4, _ | 5, _ | 6, _ => exact ⟨_, _, _, rfl⟩
  | n + 7, h => omega
theorem tdiv_split (n : Int) : (n.tmod 86400 < 0 → n.tdiv 86400 - 1 = n / 86400) ∧ (0 ≤ n.tmod 86400 → n.tdiv 86400 = n / 86400) := by
  by_cases h : 0 ≤ n
  · rw [Int.tmod_eq_emod_of_nonneg h, Int.tdiv_eq_ediv_of_nonneg h]; omega
  · have e1 : n.tdiv 86400 = -((-n) / 86400) := by
      rw [← Int.tdiv_eq_ediv_of_nonneg (by omega : 0 ≤ -n), Int.neg_tdiv, Int.neg_neg]
    have e2 := Int.mul_tdiv_add_tmod n 86400
    rw [e1] at e2 ⊢
    omega

theorem held_call {W w w' : World} {g q : Nat} {v : Value} (hb : Below w.heap.size w w') (h : w.cell? ⟨g, q, none⟩ = some v ∧ g < w.heap.size ∧ Below W.heap.size W w) : w'.cell? ⟨g, q, none⟩ = some v ∧ g < w'.heap.size ∧ Below W.heap.size W w' :=
  ⟨(hb.cell (p := ⟨g, q, none⟩) h.2.1).trans h.1, Nat.lt_of_lt_of_le h.2.1 hb.size, bel_call h.2.2 hb⟩
theorem held_drew {W w : World} {g q : Nat} {v : Value} (h : w.cell? ⟨g, q, none⟩ = some v ∧ g < w.heap.size ∧ Below W.heap.size W w) : w.drew.cell? ⟨g, q, none⟩ = some v ∧ g < w.drew.heap.size ∧ Below W.heap.size W w.drew := ⟨h.1, h.2.1, h.2.2.drew⟩
theorem wk_cell {w : World} {g t : Nat} (h : Blk w g t #[.string ⟨#[83, 117, 110]⟩, .string ⟨#[77, 111, 110]⟩, .string ⟨#[84, 117, 101]⟩, .string ⟨#[87, 101, 100]⟩, .string ⟨#[84, 104, 117]⟩, .string ⟨#[70, 114, 105]⟩, .string ⟨#[83, 97, 116]⟩]) (q : Nat) (hq : q < 7) : w.cell? ⟨g, q, none⟩ = some (.string (S (wkN.getD q []))) := by
  rw [h.cell q]
  match q, hq with
  | 0, _ | 1, _ | 2, _ | 3, _ | 4, _ | 5, _ | 6, _ => rfl
  | n + 7, h => omega
@[simp, go_sem] theorem twoL_len (n : Int) : (twoL n).length = 2 := Eq.trans rfl rfl
theorem cap_byte {a : UInt8} (h1 : 97 ≤ a.toNat) (h2 : a.toNat ≤ 122) : IntKind.u8.wrap (IntKind.u8.wrap ((a.toNat : Int) - 97) + 65) = ((a - 32).toNat : Int) := by
  have e : (a - 32).toNat = a.toNat - 32 := by rw [UInt8.toNat_sub_of_le _ _ (by rw [UInt8.le_iff_toNat_le]; show 32 ≤ a.toNat; omega)]; rfl
  rw [e, IntWalk.u8_in ((a.toNat : Int) - 97) (by omega), IntWalk.u8_in _ (by omega)]
  omega

end Go.Proofs.YtgfoaopfdpclhaaGreatDoor
namespace Go.Proofs.YtgfoaopfdpclhaaGreatDoor
open Go.RowKit
set_option linter.unusedVariables false
set_option maxRecDepth 100000

def sampleL : List UInt8 := [83, 117, 110, 44, 32, 48, 54, 32, 78, 111, 118, 32, 49, 57, 57, 52, 32, 48, 56, 58, 52, 57, 58, 51, 55, 32, 71, 77, 84]
theorem sample_parse : dateT sampleL = (784111777, 0) := by decide +kernel
theorem sample_text : timeT 784111777 = (sampleL, 0) := by decide +kernel

end Go.Proofs.YtgfoaopfdpclhaaGreatDoor
namespace Go.Proofs.YtgfoaopfdpclhaaGreatDoor
open Go.ChangeShapes Go.WideShapes Go.ChangeAt Go.WideMaps Go.WideElems Go.RowKit
set_option linter.unusedVariables false
set_option maxRecDepth 100000

theorem tMonths : (Tryz.prog.globals[1]?).map (·.type) = some 132 := by kernel_rfl
theorem door_met (os : Os) (args : Array Value) : laidMetH Tryz.prog Rows.cookieMakesRow.laid ((World.doorLaid Tryz.prog 400 os).forCall (fun _ _ => 0) ⟨#[], args, []⟩).memory :=
  laidMetH_of_parts3 (fuel := 8) (laidMet_of_run' 8 (by kernel_rfl) (by kernel_rfl)) (by kernel_rfl) (by kernel_rfl)

theorem mon_of_laid {W : World} (h : laidMetH Tryz.prog Rows.cookieMakesRow.laid W) : Mon W := by
  change laidMetH Tryz.prog [(_, Rows.laid_biscotti_date_months)] W at h
  rw [MakeChecks.laidMetH_plain _ _ _ (by kernel_rfl)] at h
  obtain ⟨ps, ⟨g0, t0, cs0, f0, p0, q0, hg0, ht0, hv0, hd0, hrest⟩, _⟩ := h
  have gM : some 1 = some g0 := Eq.trans (by kernel_rfl) hg0
  obtain rfl := Option.some.inj gM
  obtain rfl := Option.some.inj (tMonths.symm.trans ht0)
  obtain ⟨xs, m1, rfl, hx1, hlen, hn, hel⟩ := DataW.trod_array Tryz.underlying132 hd0
  have cS : Tryz.prog.cellsOf 9 = 1 := by kernel_rfl
  have cA : Tryz.prog.cellsOf 132 = 12 := by kernel_rfl
  rw [cA] at hlen
  simp only [Prod.mk.injEq] at hx1
  have hmap : xs.map (·.1) = monN.map (fun l => DataW.lit (.string l)) := by
    have e := hx1.1
    unfold Rows.laid_biscotti_date_months at e
    injection e with e
    exact e.symm
  have hcell : ∀ j, j < 12 → W.cell? ⟨1, j, none⟩ = some (strV (monN.getD j [])) := by
    intro j hj
    have h0 := hel j hj
    rw [cS, Nat.mul_one] at h0
    have hxj : xs[j]? = some (xs[j]'(by omega)) := List.getElem?_eq_getElem (by omega)
    rw [hxj] at h0
    obtain ⟨s, e1, e2, _⟩ := DataW.trod_string Tryz.underlying9 h0
    have hc1 : cs0.toList[j]? = some (.string s) := by
      have : ((cs0.toList.drop j).take 1)[0]? = some (.string s) := by rw [e1]; rfl
      rw [List.getElem?_take_of_lt (by decide), List.getElem?_drop] at this
      simpa using this
    have hs : s.data.toList = monN.getD j [] := by
      have e3 : (xs.map (·.1))[j]? = some (DataW.lit (.string s.data.toList)) := by rw [List.getElem?_map, hxj, e2]; rfl
      rw [hmap, List.getElem?_map, List.getElem?_eq_getElem (show j < monN.length from hj)] at e3
      rw [List.getD_eq_getElem?_getD, List.getElem?_eq_getElem (show j < monN.length from hj)]
      simpa using e3.symm
    have hv := World.var?_cell hg0 hv0 j
    rw [hv]
    rw [Array.getElem?_toList] at hc1
    rw [hc1]
    unfold strV S
    rw [← hs]
  refine ⟨?_, fun j v hv => ?_⟩
  · have := hcell 0 (by decide)
    cases hh : W.heap[1]? with
    | none => simp [World.cell?, hh] at this
    | some o => exact (Array.getElem?_eq_some_iff.1 hh).1
  · have hj : j < 12 := by
      have := (List.getElem?_eq_some_iff.1 hv).1
      simpa [monN] using this
    rw [Nat.zero_add, hcell j hj]
    rw [List.getElem?_map, List.getElem?_eq_getElem (show j < monN.length from hj)] at hv
    rw [List.getD_eq_getElem?_getD, List.getElem?_eq_getElem (show j < monN.length from hj)]
    exact hv

end Go.Proofs.YtgfoaopfdpclhaaGreatDoor
