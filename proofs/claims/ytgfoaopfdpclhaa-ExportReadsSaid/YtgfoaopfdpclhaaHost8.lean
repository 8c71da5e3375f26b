/-
  The walks of the reference of package host, third part.
-/
import Derived.Test.YtgfoaopfdpclhaaHost7
namespace Go.Proofs.Ytgfoaopfdpclhaa
open Go.RowKit
set_option linter.unusedVariables false

set_option maxHeartbeats 1000000 in
theorem refAddr_any (s : ByteArray) (w : World) (hs : s.size ≤ 4294967296) :
    Calls Try.prog 74 #[.string s] w fun e w' => e = .returned (.bool (addrB s.toList)) ∧ Below w.heap.size w w' := by
  have hm : s.size ≤ maxLen := by unfold maxLen; omega
  go_enter Try.func74, Try.ntmps74
  go_wp2_with fail
  refine (refFour_any s w hs).mono ?_
  rintro e w1 ⟨rfl, hb1⟩
  cases hq : fourB s.toList
  · have hQ := Lib.hid hq
    clear hq
    go_wp2_with fail
    refine (refBracket_any s w1 hm).mono ?_
    rintro e w2 ⟨rfl, rfl⟩
    go_wp2
    go_ret
    exact ⟨ret_bool (by unfold addrB; rw [hQ.out]; rfl), hb1⟩
  · have hQ := Lib.hid hq
    clear hq
    go_wp2
    go_ret
    exact ⟨ret_bool (by unfold addrB; rw [hQ.out]; rfl), hb1⟩

set_option maxHeartbeats 2000000 in
theorem refName_any (s : ByteArray) (w : World) (hs : s.size ≤ 4294967296) :
    Calls Try.prog 73 #[.string s] w fun e w' => e = .returned (.bool (nameB s.toList)) ∧ Below w.heap.size w w' := by
  have hm : s.size ≤ maxLen := by unfold maxLen; omega
  have hpl := Lib.hid (split_part s.toList 46)
  have hsz := Lib.hid (size_toList s)
  have hlen := split_len s.toList 46
  rw [← size_toList] at hlen
  by_cases h1 : 256 < s.size
  · have h1i : (256 : Int) < s.size := by omega
    have hfin := Lib.hid (show nameB s.toList = false by unfold nameB; rw [decide_eq_false (by rw [← hsz.out]; omega : ¬ s.toList.length ≤ 256)]; rfl)
    go_enter Try.func73, Try.ntmps73
    go_wp2
    go_ret
    exact ⟨ret_bool hfin.out.symm, Below.refl _ _⟩
  have h1i : decide ((256 : Int) < s.size) = false := decide_eq_false (by omega)
  have hF := Lib.hid (show nameB s.toList = (!fourB s.toList && (splitL s.toList 46).all labelB) by
    rw [← refName_eq]; unfold refNameB; rw [decide_eq_true (by rw [← hsz.out]; omega : s.toList.length ≤ 256), refFour_eq, show refLabelB = labelB from funext refLabel_eq]; rfl)
  go_enter Try.func73, Try.ntmps73
  go_wp2_with fail
  refine (refFour_any s w hs).mono ?_
  rintro e w1 ⟨rfl, hb1⟩
  cases hq : fourB s.toList
  case true =>
    have hQ := Lib.hid hq
    clear hq
    go_wp2
    go_ret
    exact ⟨ret_bool (by rw [hF.out, hQ.out]; rfl), hb1⟩
  have hF2 := Lib.hid (show nameB s.toList = (splitL s.toList 46).all labelB by rw [hF.out, hq]; rfl)
  clear hq
  go_wp2_with fail
  refine (refSplit_any s 46 _ hs).mono ?_
  rintro e w2 ⟨A, c, rfl, hown, hb2⟩
  have hR := Rd.of_own hown
  have hcap := hR.cap
  unfold maxLen at hcap
  obtain ⟨hca, hcb⟩ := hcap
  clear hown
  have hbw2 := bel_call hb1 hb2
  generalize splitL s.toList 46 = l at *
  go_wp2_with fail
  go_loopw [4] (fun i wr => ∃ k : Nat, k ≤ l.length ∧ i = .int .i64 k ∧ Below w2.heap.size w2 wr ∧ Hid ((l.take k).all labelB = true)) (fun i _ => l.length - (intOf i).toNat)
  case atStart => exact ⟨0, Nat.zero_le _, rfl, Below.refl _ _, rfl⟩
  case round =>
    obtain ⟨k, hk, rfl, hbel, hall⟩ := hrel
    have hbw := bel_call hbw2 hbel
    by_cases hlt : k < l.length
    · have hlti : (k : Int) < l.length := by omega
      obtain ⟨b, off, rfl, hb, _, hcell⟩ := rd_str (hR.below hbel) hlt
      have hst := Lib.hid (all_take_stepL (p := labelB) hlt)
      have hbad := Lib.hid (all_badL (p := labelB) hlt)
      have hpm : (S l[k]).size ≤ maxLen := by
        have := hpl.out _ (List.getElem_mem hlt)
        rw [← hsz.out] at this
        rw [S_size]; unfold maxLen; omega
      obtain ⟨p, hp⟩ : ∃ p, l[k] = p := ⟨_, rfl⟩
      rw [hp] at hcell hpm
      have hP := Lib.hid hp
      clear hp
      go_wp2_with fail
      refine (refLabel_any _ _ hpm).mono ?_
      rintro e w' ⟨rfl, rfl⟩
      rw [S_toList]
      cases hy : labelB p
      · have hY := Lib.hid hy
        clear hy
        go_wp2
        go_ret
        exact ⟨ret_bool (by rw [hF2.out, hbad.out (by rw [hP.out]; exact hY.out)]), hbw⟩
      · have hY := Lib.hid hy
        clear hy
        go_wp2
        go_roundw
        case rel => exact ⟨k + 1, by omega, by go_num, hbel, by show _ = _; rw [hst.out, hall.out, hP.out, hY.out]; rfl⟩
        case measure => simp [intOf]; omega
    · obtain rfl : k = l.length := by omega
      have hf := Lib.hid (show l.all labelB = true by have := hall.out; rwa [List.take_length] at this)
      go_wp2
      go_ret
      exact ⟨ret_bool (by rw [hF2.out, hf.out]), hbw⟩

set_option maxHeartbeats 1000000 in
theorem refCanonical_any (s : ByteArray) (w : World) (hs : s.size ≤ 4294967296) :
    Calls Try.prog 54 #[.string s] w fun e w' => e = .returned (.bool (canonB s.toList)) ∧ Below w.heap.size w w' := by
  have hsz := Lib.hid (size_toList s)
  have hF := Lib.hid (show canonB s.toList = (decide (s.size ≤ 256) && (nameB s.toList || addrB s.toList)) by
    rw [← refCanon_eq]; unfold refCanonB; rw [refName_eq, hsz.out])
  by_cases h1 : 256 < s.size
  · have h1i : (256 : Int) < s.size := by omega
    have hfin := Lib.hid (show canonB s.toList = false by rw [hF.out, decide_eq_false (by omega)]; rfl)
    go_enter Try.func54, Try.ntmps54
    go_wp2
    go_ret
    exact ⟨ret_bool hfin.out.symm, Below.refl _ _⟩
  have h1i : (s.size : Int) ≤ 256 := by omega
  have hF := Lib.hid (show canonB s.toList = (nameB s.toList || addrB s.toList) by rw [hF.out, decide_eq_true (by omega)]; rfl)
  go_enter Try.func54, Try.ntmps54
  go_wp2_with fail
  refine (refName_any s w hs).mono ?_
  rintro e w1 ⟨rfl, hb1⟩
  cases hq : nameB s.toList
  · have hG := Lib.hid (show canonB s.toList = addrB s.toList by rw [hF.out, hq]; rfl)
    clear hq
    go_wp2_with fail
    refine (refAddr_any s w1 hs).mono ?_
    rintro e w2 ⟨rfl, hb2⟩
    have hb3 := bel_call hb1 hb2
    go_wp2
    go_ret
    exact ⟨ret_bool hG.out.symm, hb3⟩
  · have hG := Lib.hid (show canonB s.toList = true by rw [hF.out, hq]; rfl)
    clear hq
    go_wp2
    go_ret
    exact ⟨ret_bool hG.out.symm, hb1⟩

end Go.Proofs.Ytgfoaopfdpclhaa
