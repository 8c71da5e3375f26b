/-
  The table of months lies in the world in which a call begins; a year's leap told twice.
-/
import Derived.Test.YtagiolhciplniaaDoorDate13
import Derived.ProofKit
import Derived.LaidMore
import Derived.OpenShut
import Derived.MakeChecks
import Derived.Stop.Joined
namespace Go.Proofs.YtagiolhciplniaaDoor
open Go.ChangeShapes Go.WideShapes Go.ChangeAt Go.WideMaps Go.WideElems Go.RowKit
set_option linter.unusedVariables false

theorem tMonths : (Tryd.prog.globals[0]?).map (·.type) = some 66 := by kernel_rfl
theorem door_met (os : Os) (args : Array Value) : laidMetH Tryd.prog Rows.dateDaysRow.laid ((World.doorLaid Tryd.prog 400 os).forCall (fun _ _ => 0) ⟨#[], args, []⟩).memory :=
  laidMetH_of_parts3 (fuel := 8) (laidMet_of_run' 8 (by kernel_rfl) (by kernel_rfl)) (by kernel_rfl) (by kernel_rfl)

theorem mon_of_laid {W : World} (h : laidMetH Tryd.prog Rows.dateDaysRow.laid W) : Mon W := by
  change laidMetH Tryd.prog [(_, Rows.laid_biscotti_date_months)] W at h
  rw [MakeChecks.laidMetH_plain _ _ _ (by kernel_rfl)] at h
  obtain ⟨ps, ⟨g0, t0, cs0, f0, p0, q0, hg0, ht0, hv0, hd0, hrest⟩, _⟩ := h
  have gM : some 0 = some g0 := Eq.trans (by kernel_rfl) hg0
  obtain rfl := Option.some.inj gM
  obtain rfl := Option.some.inj (tMonths.symm.trans ht0)
  obtain ⟨xs, m1, rfl, hx1, hlen, hn, hel⟩ := DataW.trod_array Tryd.underlying66 hd0
  have cS : Tryd.prog.cellsOf 9 = 1 := by kernel_rfl
  have cA : Tryd.prog.cellsOf 66 = 12 := by kernel_rfl
  rw [cA] at hlen
  simp only [Prod.mk.injEq] at hx1
  have hmap : xs.map (·.1) = monN.map (fun l => DataW.lit (.string l)) := by
    have e := hx1.1
    unfold Rows.laid_biscotti_date_months at e
    injection e with e
    exact e.symm
  have hcell : ∀ j, j < 12 → W.cell? ⟨0, j, none⟩ = some (strV (monN.getD j [])) := by
    intro j hj
    have h0 := hel j hj
    rw [cS, Nat.mul_one] at h0
    have hxj : xs[j]? = some (xs[j]'(by omega)) := List.getElem?_eq_getElem (by omega)
    rw [hxj] at h0
    obtain ⟨s, e1, e2, _⟩ := DataW.trod_string Tryd.underlying9 h0
    have hc1 : cs0.toList[j]? = some (.string s) := by
      have : ((cs0.toList.drop j).take 1)[0]? = some (.string s) := by rw [e1]; rfl
      rw [List.getElem?_take_of_lt (by decide), List.getElem?_drop] at this
      simpa using this
    have hs : s.data.toList = monN.getD j [] := by
      have e3 : (xs.map (·.1))[j]? = some (DataW.lit (.string s.data.toList)) := by rw [List.getElem?_map, hxj, e2]; rfl
      rw [hmap, List.getElem?_map, List.getElem?_eq_getElem (show j < monN.length from hj)] at e3
      rw [List.getD_eq_getElem?_getD, List.getElem?_eq_getElem (show j < monN.length from hj)]
      simpa using e3.symm
    have hv := World.var?_cell hg0 hv0 j
    rw [hv]
    rw [Array.getElem?_toList] at hc1
    rw [hc1]
    unfold strV S
    rw [← hs]
  refine ⟨?_, fun j v hv => ?_⟩
  · have := hcell 0 (by decide)
    cases hh : W.heap[0]? with
    | none => simp [World.cell?, hh] at this
    | some o => exact (Array.getElem?_eq_some_iff.1 hh).1
  · have hj : j < 12 := by
      have := (List.getElem?_eq_some_iff.1 hv).1
      simpa [monN] using this
    rw [Nat.zero_add, hcell j hj]
    rw [List.getElem?_map, List.getElem?_eq_getElem (show j < monN.length from hj)] at hv
    rw [List.getD_eq_getElem?_getD, List.getElem?_eq_getElem (show j < monN.length from hj)]
    exact hv

set_option maxHeartbeats 1000000 in
theorem lawLeaps_any (y : Int) (w : World) (hw : (Lit.int .i64 y).wf = true) (hm : Mon w) :
    Calls Tryd.prog 7 #[.int .i64 y] w fun e w' => e = .returned (.bool true) ∧ Below w.heap.size w w' := by
  cases hl : leapB y
  all_goals
    have hL := Lib.hid hl
    clear hl
    go_enter Tryd.func7, Tryd.ntmps7
    go_wp2_with fail
    refine (leap_any _ _).mono ?_
    rintro e w' ⟨rfl, rfl⟩
    go_wp2_with fail
    refine (refLeap_any _ _).mono ?_
    rintro e w' ⟨rfl, rfl⟩
    rw [hL.out]
    go_wp2_with fail
    refine (awake07_any _ hm).mono ?_
    rintro e w1 ⟨rfl, hb⟩
    go_wp2
    go_ret
    exact ⟨rfl, hb⟩
end Go.Proofs.YtagiolhciplniaaDoor
