/-
  The walks of the reference of package host, second part.
-/
import Derived.Test.YtgfoaopfdpclhaaHost6
import Derived.StillTailTactics
import Derived.Deep.RegionHeld3
namespace Go.Proofs.Ytgfoaopfdpclhaa
open Go.RowKit
set_option linter.unusedVariables false

theorem refPart_cases (p : List UInt8) :
    (decide ((p.length : Int) < 1) = true ∧ partB p = false) ∨
    (decide ((p.length : Int) < 1) = false ∧ decide ((3 : Int) < p.length) = true ∧ partB p = false) ∨
    (decide ((p.length : Int) < 1) = false ∧ decide ((3 : Int) < p.length) = false ∧ ((digN p : Int) != p.length) = true ∧ partB p = false) ∨
    (decide ((p.length : Int) < 1) = false ∧ decide ((3 : Int) < p.length) = false ∧ ((digN p : Int) != p.length) = false ∧ decide ((255 : Int) < numV p) = true ∧ partB p = false) ∨
    (decide ((p.length : Int) < 1) = false ∧ decide ((3 : Int) < p.length) = false ∧ ((digN p : Int) != p.length) = false ∧ decide ((255 : Int) < numV p) = false ∧ (textL (numV p) == p) = partB p) := by
  rw [← refPart_eq]
  unfold refPartB
  have e1 : decide ((p.length : Int) < 1) = !decide (1 ≤ p.length) := by rw [Bool.eq_iff_iff]; simp only [decide_eq_true_eq, Bool.not_eq_true', decide_eq_false_iff_not]; omega
  have e2 : decide ((3 : Int) < p.length) = !decide (p.length ≤ 3) := by rw [Bool.eq_iff_iff]; simp; omega
  have e3 : ((digN p : Int) != p.length) = !decide (digN p = p.length) := by rw [Bool.eq_iff_iff]; simp; omega
  have e4 : decide ((255 : Int) < numV p) = !decide (numV p ≤ 255) := by rw [Bool.eq_iff_iff]; simp
  rw [e1, e2, e3, e4]
  cases decide (1 ≤ p.length) <;> cases decide (p.length ≤ 3) <;> cases decide (digN p = p.length) <;> cases decide (numV p ≤ 255) <;> simp

set_option maxHeartbeats 4000000 in
theorem refFour_any (s : ByteArray) (w : World) (hs : s.size ≤ 4294967296) :
    Calls Try.prog 90 #[.string s] w fun e w' => e = .returned (.bool (fourB s.toList)) ∧ Below w.heap.size w w' := by
  have hpl := Lib.hid (split_part s.toList 46)
  have hsz := Lib.hid (size_toList s)
  have hlen := split_len s.toList 46
  rw [← size_toList] at hlen
  have hF := Lib.hid (show fourB s.toList = (decide ((splitL s.toList 46).length = 4) && (splitL s.toList 46).all partB) from rfl)
  go_enter Try.func90, Try.ntmps90
  go_wp2_with fail
  refine (refSplit_any s 46 _ hs).mono ?_
  rintro e w1 ⟨A, c, rfl, hown, hb1⟩
  have hR := Rd.of_own hown
  have hcap := hR.cap
  unfold maxLen at hcap
  obtain ⟨hca, hcb⟩ := hcap
  clear hown
  generalize splitL s.toList 46 = l at *
  by_cases h4 : l.length = 4
  · have h4i : ((l.length : Int) != 4) = false := by rw [bne_eq_false_iff_eq]; omega
    have h4c : (l.length : Int) = 4 := by omega
    have hF2 := Lib.hid (show fourB s.toList = l.all partB by rw [hF.out, decide_eq_true h4]; rfl)
    have h4n := Lib.hid h4
    clear h4
    go_wp2_with fail
    go_loopw [4, 5, 6] (fun i u v wr => ∃ k : Nat, k ≤ l.length ∧ i = .int .i64 k ∧ Below w1.heap.size w1 wr ∧ Hid ((l.take k).all partB = true)) (fun i _ _ _ => l.length - (intOf i).toNat)
    case atStart => exact ⟨0, Nat.zero_le _, rfl, Below.refl _ _, rfl⟩
    case round =>
      obtain ⟨k, hk, rfl, hbel, hall⟩ := hrel
      have hbw := bel_call hb1 hbel
      by_cases hlt : k < l.length
      · have hlti : (k : Int) < 4 := by omega
        have hltl : (k : Int) < l.length := by omega
        obtain ⟨b, off, rfl, hb, _, hcell⟩ := rd_str (hR.below hbel) hlt
        have hst := Lib.hid (all_take_stepL (p := partB) hlt)
        have hbad := Lib.hid (all_badL (p := partB) hlt)
        have hpm : (S l[k]).size ≤ maxLen := by
          have := hpl.out _ (List.getElem_mem hlt)
          rw [← hsz.out] at this
          rw [S_size]; unfold maxLen; omega
        have hpm' : l[k].length ≤ 4294967296 := by
          have := hpl.out _ (List.getElem_mem hlt)
          rw [← hsz.out] at this
          omega
        obtain ⟨p, hp⟩ : ∃ p, l[k] = p := ⟨_, rfl⟩
        rw [hp] at hcell hpm hpm'
        have hP := Lib.hid hp
        clear hp
        have hnb := numV_bd p
        rcases refPart_cases p with ⟨h1, hn⟩ | ⟨h1, h2, hn⟩ | ⟨h1, h2, h3, hn⟩ | ⟨h1, h2, h3, h4, hn⟩ | ⟨h1, h2, h3, h4, hn⟩
        · have hN := Lib.hid hn
          clear hn
          go_wp2
          go_quiet (fail)
          go_wp2
          go_ret
          exact ⟨ret_bool (by rw [hF2.out, hbad.out (by rw [hP.out]; exact hN.out)]), below_drews hbw _⟩
        · have hN := Lib.hid hn
          clear hn
          go_wp2
          go_quiet (fail)
          go_wp2
          go_ret
          exact ⟨ret_bool (by rw [hF2.out, hbad.out (by rw [hP.out]; exact hN.out)]), below_drews hbw _⟩
        · have hN := Lib.hid hn
          clear hn
          go_wp2
          go_quiet ((go_at_call 58; exact Calls.quiet_of_same ((refDigits_any _ _ hpm).mono fun _ _ h => ⟨h.1, h.2.symm⟩)))
          rw [S_toList]
          go_wp2
          go_ret
          exact ⟨ret_bool (by rw [hF2.out, hbad.out (by rw [hP.out]; exact hN.out)]), below_drews hbw _⟩
        · have hN := Lib.hid hn
          clear hn
          go_wp2
          go_quiet ((go_at_call 58; exact Calls.quiet_of_same ((refDigits_any _ _ hpm).mono fun _ _ h => ⟨h.1, h.2.symm⟩)))
          rw [S_toList]
          go_wp2_with fail
          refine (refNumber_any _ _ hpm).mono ?_
          rintro e w' ⟨rfl, rfl⟩
          rw [S_toList]
          go_wp2_with fail
          go_quiet (fail)
          go_wp2
          go_ret
          exact ⟨ret_bool (by rw [hF2.out, hbad.out (by rw [hP.out]; exact hN.out)]), below_drews (below_drews hbw _) _⟩
        · have hN := Lib.hid hn
          clear hn
          go_wp2
          go_quiet ((go_at_call 58; exact Calls.quiet_of_same ((refDigits_any _ _ hpm).mono fun _ _ h => ⟨h.1, h.2.symm⟩)))
          rw [S_toList]
          go_wp2_with fail
          refine (refNumber_any _ _ hpm).mono ?_
          rintro e w' ⟨rfl, rfl⟩
          rw [S_toList]
          go_wp2_with fail
          go_region_with (first
            | (go_at_call 28; refine (refText_any _ _ (by omega) (by omega)).mono ?_; rintro e w' ⟨rfl, hb4⟩; have hcell4 := cell_later hb4 hcell))
          all_goals
            have hbel5 := bel_call (below_drews hbel _) hb4
            have hbw5 := bel_call hb1 hbel5
            generalize textL (numV p) = t at *
            cases ht : (t == p)
            · have hN2 := Lib.hid (show partB p = false by rw [← hN.out, ht])
              go_wp2
              go_ret
              exact ⟨ret_bool (by rw [hF2.out, hbad.out (by rw [hP.out]; exact hN2.out)]), hbw5⟩
            · have hN2 := Lib.hid (show partB p = true by rw [← hN.out, ht])
              go_wp2
              go_roundw
              case rel => exact ⟨k + 1, by omega, by go_num, hbel5, by show _ = _; rw [hst.out, hall.out, hP.out, hN2.out]; rfl⟩
              case measure => simp [intOf]; omega
      · obtain rfl : k = l.length := by omega
        have hf := Lib.hid (show l.all partB = true by have := hall.out; rwa [List.take_length] at this)
        go_wp2
        go_ret
        exact ⟨ret_bool (by rw [hF2.out, hf.out]), hbw⟩
  · have h4i : ((l.length : Int) != 4) = true := by rw [bne_iff_ne]; omega
    go_wp2_with fail
    go_ret
    exact ⟨ret_bool (by rw [hF.out, decide_eq_false h4]; rfl), hb1⟩
end Go.Proofs.Ytgfoaopfdpclhaa
