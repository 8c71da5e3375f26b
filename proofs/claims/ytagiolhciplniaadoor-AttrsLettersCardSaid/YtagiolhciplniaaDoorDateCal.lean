/-
  The calendar: plain laws.
-/
import Derived.Test.YtagiolhciplniaaDoorDate
namespace Go.Proofs.YtagiolhciplniaaDoor
set_option linter.unusedVariables false

/-- A day of four hundred years: its century, its four years, its year and its day in that. -/
theorem era_parts (d : Int) (h1 : 0 ≤ d) (h2 : d ≤ 146096) : ∃ c q t r : Int, 0 ≤ c ∧ c ≤ 3 ∧ 0 ≤ q ∧ q ≤ 24 ∧ 0 ≤ t ∧ t ≤ 3 ∧ 0 ≤ r ∧ r ≤ 365 ∧ d = 36524 * c + 1461 * q + 365 * t + r ∧ (r = 365 → t = 3 ∧ (q < 24 ∨ c = 3)) := by
  obtain ⟨c, hc1, hc2, hc3, hc4⟩ : ∃ c : Int, 0 ≤ c ∧ c ≤ 3 ∧ 36524 * c ≤ d ∧ (d < 36524 * (c + 1) ∨ (c = 3 ∧ d ≤ 146096)) := by
    by_cases h : d < 36524 * 4
    · exact ⟨d / 36524, by omega, by omega, by omega, .inl (by omega)⟩
    · exact ⟨3, by omega, by omega, by omega, .inr ⟨rfl, h2⟩⟩
  obtain ⟨q, hq1, hq2, hq3, hq4⟩ : ∃ q : Int, 0 ≤ q ∧ q ≤ 24 ∧ 1461 * q ≤ d - 36524 * c ∧ d - 36524 * c < 1461 * (q + 1) :=
    ⟨(d - 36524 * c) / 1461, by omega, by omega, by omega, by omega⟩
  obtain ⟨t, ht1, ht2, ht3, ht4⟩ : ∃ t : Int, 0 ≤ t ∧ t ≤ 3 ∧ 365 * t ≤ d - 36524 * c - 1461 * q ∧ (d - 36524 * c - 1461 * q < 365 * (t + 1) ∨ (t = 3 ∧ d - 36524 * c - 1461 * q ≤ 1460)) := by
    by_cases h : d - 36524 * c - 1461 * q < 1460
    · exact ⟨(d - 36524 * c - 1461 * q) / 365, by omega, by omega, by omega, .inl (by omega)⟩
    · exact ⟨3, by omega, by omega, by omega, .inr ⟨rfl, by omega⟩⟩
  exact ⟨c, q, t, d - 36524 * c - 1461 * q - 365 * t, hc1, hc2, hq1, hq2, ht1, ht2, by omega, by omega, by omega, fun h => by omega⟩
theorem era_year {d c q t r : Int} (hc1 : 0 ≤ c) (hc2 : c ≤ 3) (hq1 : 0 ≤ q) (hq2 : q ≤ 24) (ht1 : 0 ≤ t) (ht2 : t ≤ 3) (hr1 : 0 ≤ r) (hr2 : r ≤ 365) (hd : d = 36524 * c + 1461 * q + 365 * t + r) (hx : r = 365 → t = 3 ∧ (q < 24 ∨ c = 3)) :
    (d - d / 1460 + d / 36524 - d / 146096) / 365 = 100 * c + 4 * q + t := by
  by_cases hs : d = 146096
  · have : c = 3 ∧ q = 24 ∧ t = 3 ∧ r = 365 := by omega
    obtain ⟨rfl, rfl, rfl, rfl⟩ := this
    subst hs
    decide
  · have e1 : d / 36524 = c := by omega
    have e2 : d / 146096 = 0 := by omega
    have e3 : (d / 1460 = 25 * c + q ∧ r ≤ 364) ∨ (d / 1460 = 25 * c + q + 1 ∧ 1 ≤ r) := by omega
    rw [e1, e2]
    rcases e3 with ⟨e3, h⟩ | ⟨e3, h⟩
    · rw [e3]; omega
    · rw [e3]; omega
theorem era_day {d c q t r : Int} (hc1 : 0 ≤ c) (hc2 : c ≤ 3) (hq1 : 0 ≤ q) (hq2 : q ≤ 24) (ht1 : 0 ≤ t) (ht2 : t ≤ 3) (hd : d = 36524 * c + 1461 * q + 365 * t + r) :
    d - (365 * (100 * c + 4 * q + t) + (100 * c + 4 * q + t) / 4 - (100 * c + 4 * q + t) / 100) = r := by
  have hc : c = 0 ∨ c = 1 ∨ c = 2 ∨ c = 3 := by omega
  rcases hc with rfl | rfl | rfl | rfl <;> omega
end Go.Proofs.YtagiolhciplniaaDoor
