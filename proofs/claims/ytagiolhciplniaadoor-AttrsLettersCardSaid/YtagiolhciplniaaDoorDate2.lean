/-
  The walks of package date: the day of a number.
-/
import Derived.Test.YtagiolhciplniaaDoorDateCal
import Derived.Deep.Cut
namespace Go.Proofs.YtagiolhciplniaaDoor
open Go.RowKit
set_option linter.unusedVariables false

theorem results_tmp4 {fn : Func} {t u v x : Tmp} (h : fn.results = #[.tmp t, .tmp u, .tmp v, .tmp x]) (tmps : Array Value) (P : Program) (w : World) :
    (results fn tmps).run P w = .ok (.tuple #[tmps.getD t undef, tmps.getD u undef, tmps.getD v undef, tmps.getD x undef]) w := by
  simp [results, h]

def civD (n : Int) : Int := (n + 719468) % 146097
def civY (n : Int) : Int := (civD n - civD n / 1460 + civD n / 36524 - civD n / 146096) / 365
def civR (n : Int) : Int := civD n - (365 * civY n + civY n / 4 - civY n / 100)
def civM (n : Int) : Int := (5 * civR n + 2) / 153
def civilT (n : Int) : Int × Int × Int × Int :=
  if n < -134774 ∨ 2932896 < n then (0, 0, 0, 4)
  else if 12 < civM n + 3 then ((n + 719468) / 146097 * 400 + civY n + 1, civM n + 3 - 12, civR n - (153 * civM n + 2) / 5 + 1, 0)
  else ((n + 719468) / 146097 * 400 + civY n, civM n + 3, civR n - (153 * civM n + 2) / 5 + 1, 0)

theorem civ_bd {n : Int} (h1 : 0 ≤ civD n) (h2 : civD n ≤ 146096) : 0 ≤ civY n ∧ civY n ≤ 399 ∧ 0 ≤ civR n ∧ civR n ≤ 365 ∧ 0 ≤ civM n ∧ civM n ≤ 11 := by
  obtain ⟨c, q, t, r, hc1, hc2, hq1, hq2, ht1, ht2, hr1, hr2, hd, hx⟩ := era_parts _ h1 h2
  have hY : civY n = 100 * c + 4 * q + t := by unfold civY; exact era_year hc1 hc2 hq1 hq2 ht1 ht2 hr1 hr2 hd hx
  have hR : civR n = r := by unfold civR; rw [hY]; exact era_day hc1 hc2 hq1 hq2 ht1 ht2 hd
  have hM : civM n = (5 * r + 2) / 153 := by unfold civM; rw [hR]
  omega

set_option maxHeartbeats 4000000 in
theorem civil_any (n : Int) (w : World) :
    Calls Tryd.prog 15 #[.int .i64 n] w fun e w' => e = .returned (.tuple #[.int .i64 (civilT n).1, .int .i64 (civilT n).2.1, .int .i64 (civilT n).2.2.1, .int .i64 (civilT n).2.2.2]) ∧ w = w' := by
  by_cases h1 : n < -134774
  · have hT := Lib.hid (show civilT n = (0, 0, 0, 4) from if_pos (.inl h1))
    go_enter Tryd.func15, Tryd.ntmps15
    go_wp2
    rw [hT.out]
    refine bodyPost_ret (results_tmp4 rfl _ _ _) rfl ?_
    exact ⟨rfl, rfl⟩
  by_cases h2 : 2932896 < n
  · have hT := Lib.hid (show civilT n = (0, 0, 0, 4) from if_pos (.inr h2))
    have h1' : -134774 ≤ n := by omega
    clear h1
    go_enter Tryd.func15, Tryd.ntmps15
    go_wp2
    rw [hT.out]
    refine bodyPost_ret (results_tmp4 rfl _ _ _) rfl ?_
    exact ⟨rfl, rfl⟩
  have h1' : -134774 ≤ n := by omega
  have h2' : n ≤ 2932896 := by omega
  have hT := Lib.hid (show civilT n = if 12 < civM n + 3 then ((n + 719468) / 146097 * 400 + civY n + 1, civM n + 3 - 12, civR n - (153 * civM n + 2) / 5 + 1, 0)
    else ((n + 719468) / 146097 * 400 + civY n, civM n + 3, civR n - (153 * civM n + 2) / 5 + 1, 0) from if_neg (by omega))
  clear h1 h2
  have hd0 := Lib.hid (show (n + 719468) % 146097 = civD n from rfl)
  have hD1 : 0 ≤ civD n := by unfold civD; omega
  have hD2 : civD n ≤ 146096 := by unfold civD; omega
  have hy0 := Lib.hid (show (civD n - civD n / 1460 + civD n / 36524 - civD n / 146096) / 365 = civY n from rfl)
  have hr0 := Lib.hid (show civD n - (365 * civY n + civY n / 4 - civY n / 100) = civR n from rfl)
  have hm0 := Lib.hid (show (5 * civR n + 2) / 153 = civM n from rfl)
  have hB := Lib.hid (civ_bd hD1 hD2)
  obtain ⟨hY1, hY2, hR1, hR2, hM1, hM2⟩ := hB.out
  clear hB
  generalize civM n = m at *
  generalize civR n = r at *
  generalize civY n = y at *
  generalize civD n = d at *
  go_enter Tryd.func15, Tryd.ntmps15
  go_upto_region 6 with (fail)
  rw [hd0.out]
  go_upto_region 7 with (fail)
  rw [hy0.out]
  go_upto_region 8 with (fail)
  rw [hr0.out]
  go_upto_region 9 with (fail)
  rw [hm0.out]
  go_wp2
  · rw [hT.out, if_pos (by omega)]
    refine bodyPost_ret (results_tmp4 rfl _ _ _) rfl ?_
    exact ⟨rfl, rfl⟩
  · rw [hT.out, if_neg (by omega)]
    refine bodyPost_ret (results_tmp4 rfl _ _ _) rfl ?_
    exact ⟨rfl, rfl⟩
end Go.Proofs.YtagiolhciplniaaDoor
