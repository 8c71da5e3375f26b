/-
  The walks of the reference of package host.
-/
import Derived.Test.YtgfoaopfdpclhaaHostPlain
namespace Go.Proofs.Ytgfoaopfdpclhaa
open Go.RowKit
set_option linter.unusedVariables false

set_option maxHeartbeats 1000000 in
theorem refSign_any (c : UInt8) (w : World) :
    Calls Try.prog 102 #[.int .u8 c.toNat] w fun e w' => e = .returned (.bool (refSignB c)) ∧ w = w' := by
  have hc : c.toNat < 256 := c.toNat_lt
  go_enter Try.func102, Try.ntmps102
  go_wp2
  all_goals
    go_ret
    refine ⟨ret_bool (Eq.symm ?_), rfl⟩
    unfold refSignB
    try simp only [beq_iff_eq, beq_eq_false_iff_ne, Bool.not_eq_true', Bool.not_eq_false', decide_eq_true_eq, decide_eq_false_iff_not] at *
    first
      | omega
      | exact decide_eq_true (by omega)
      | exact decide_eq_false (by omega)
      | (rw [Bool.eq_iff_iff]; simp; omega)

set_option maxHeartbeats 1000000 in
theorem refLabel_any (s : ByteArray) (w : World) (hs : s.size ≤ maxLen) :
    Calls Try.prog 91 #[.string s] w fun e w' => e = .returned (.bool (labelB s.toList)) ∧ w = w' := by
  unfold maxLen at hs
  have hsz := Lib.hid (size_toList s)
  have hF := Lib.hid (show labelB s.toList = (decide (1 ≤ s.size) && decide (s.size ≤ 63) && !(s.toList.getD 0 0 == 45) && !(s.toList.getD (s.size - 1) 0 == 45) && (List.range s.size).all fun j => refSignB (s.toList.getD j 0)) by
    rw [← refLabel_eq, size_toList]; rfl)
  by_cases h0 : s.size = 0
  · have h0i : decide ((s.size : Int) < 1) = true := decide_eq_true (by omega)
    have hfin := Lib.hid (show labelB s.toList = false by rw [hF.out, h0]; rfl)
    go_enter Try.func91, Try.ntmps91
    go_wp2
    go_ret
    exact ⟨ret_bool hfin.out.symm, rfl⟩
  have h0i : decide ((s.size : Int) < 1) = false := decide_eq_false (by omega)
  have h0j : (1 : Int) ≤ s.size := by omega
  have h0' : 0 < s.size := by omega
  have hl : s.size - 1 < s.size := by omega
  by_cases h1 : 63 < s.size
  · have h1i : (63 : Int) < s.size := by omega
    have hfin := Lib.hid (show labelB s.toList = false by rw [hF.out, decide_eq_false (by omega : ¬ s.size ≤ 63), Bool.and_false]; rfl)
    go_enter Try.func91, Try.ntmps91
    go_wp2
    go_ret
    exact ⟨ret_bool hfin.out.symm, rfl⟩
  have h1i : decide ((63 : Int) < s.size) = false := decide_eq_false (by omega)
  have hw1 : ((s.size : Int) - 1).toNat = s.size - 1 := by omega
  have hF := Lib.hid (show labelB s.toList = (!(s.toList.getD 0 0 == 45) && !(s.toList.getD (s.size - 1) 0 == 45) && (List.range s.size).all fun j => refSignB (s.toList.getD j 0)) by
    rw [hF.out, decide_eq_true (by omega : 1 ≤ s.size), decide_eq_true (by omega : s.size ≤ 63)]; rfl)
  by_cases h3 : (s.toList.getD 0 0 == 45) = true
  · have h3i : (((s[0].toNat : Int)) == 45) = true := by rw [get_l, eqc 45 (i := 45) rfl, h3]
    have hfin := Lib.hid (show labelB s.toList = false by rw [hF.out, h3]; rfl)
    clear h3
    go_enter Try.func91, Try.ntmps91
    go_wp2
    go_ret
    exact ⟨ret_bool hfin.out.symm, rfl⟩
  have h3' : (s.toList.getD 0 0 == 45) = false := by simpa using h3
  have h3i : (((s[0].toNat : Int)) == 45) = false := by rw [get_l, eqc 45 (i := 45) rfl, h3']
  by_cases h4 : (s.toList.getD (s.size - 1) 0 == 45) = true
  · have h4i : (((s[s.size - 1].toNat : Int)) == 45) = true := by rw [get_l, eqc 45 (i := 45) rfl, h4]
    have hfin := Lib.hid (show labelB s.toList = false by rw [hF.out, h4]; simp)
    clear h3 h3' h4
    go_enter Try.func91, Try.ntmps91
    go_wp2
    go_ret
    exact ⟨ret_bool hfin.out.symm, rfl⟩
  have h4' : (s.toList.getD (s.size - 1) 0 == 45) = false := by simpa using h4
  have h4i : (((s[s.size - 1].toNat : Int)) == 45) = false := by rw [get_l, eqc 45 (i := 45) rfl, h4']
  have hfin := Lib.hid (show labelB s.toList = (List.range s.size).all fun j => refSignB (s.toList.getD j 0) by rw [hF.out, h3', h4']; rfl)
  clear h3 h3' h4 h4'
  go_enter Try.func91, Try.ntmps91
  go_wp2
  go_loop [3] (fun i => ∃ k : Nat, k ≤ s.size ∧ i = .int .i64 k ∧ Hid (∀ j, j < k → refSignB (s.toList.getD j 0) = true)) (fun i => s.size - (intOf i).toNat)
  case atStart => exact ⟨0, Nat.zero_le _, rfl, fun j hj => absurd hj (by omega)⟩
  case round =>
    obtain ⟨k, hk, rfl, hall⟩ := hrel
    by_cases hlt : k < s.size
    · have hlti : (k : Int) < s.size := by omega
      have hx := Lib.hid (get_l s k hlt)
      go_wp2_with fail
      refine (refSign_any _ _).mono ?_
      rintro e w' ⟨rfl, rfl⟩
      cases hb : refSignB s[k]
      · have hbad := Lib.hid (show labelB s.toList = false by rw [hfin.out]; exact range_bad hlt (by rw [← hx.out]; exact hb))
        clear hb
        go_wp2
        go_ret
        exact ⟨ret_bool hbad.out.symm, rfl⟩
      · have hg := Lib.hid hb
        clear hb
        go_wp2
        go_round
        case rel => exact ⟨k + 1, by omega, by go_num, all_step hall.out (by rw [← hx.out]; exact hg.out)⟩
        case measure => simp [intOf]; omega
    · obtain rfl : k = s.size := by omega
      have hf := Lib.hid (show labelB s.toList = true by rw [hfin.out]; exact range_all.2 hall.out)
      go_wp2
      go_ret
      exact ⟨ret_bool hf.out.symm, rfl⟩

theorem inner_all (l : List UInt8) (p : UInt8 → Bool) : ((l.drop 1).take (l.length - 2)).all p = true ↔ ∀ j, 1 ≤ j → j < l.length - 1 → p (l.getD j 0) = true := by
  rw [List.all_eq_true]
  constructor
  · intro h j h1 h2
    refine h _ ?_
    rw [List.mem_iff_getElem]
    refine ⟨j - 1, by simp; omega, ?_⟩
    rw [List.getElem_take, List.getElem_drop, List.getD_eq_getElem?_getD, List.getElem?_eq_getElem (by omega)]
    simp only [Option.getD_some, show 1 + (j - 1) = j by omega]
  · intro h x hx
    rw [List.mem_iff_getElem] at hx
    obtain ⟨i, hi, rfl⟩ := hx
    simp only [List.length_take, List.length_drop] at hi
    have := h (i + 1) (by omega) (by omega)
    rw [List.getD_eq_getElem?_getD, List.getElem?_eq_getElem (by omega)] at this
    rw [List.getElem_take, List.getElem_drop]
    simp only [Option.getD_some, Nat.add_comm i 1] at this
    exact this

set_option maxHeartbeats 2000000 in
theorem refBracket_any (s : ByteArray) (w : World) (hs : s.size ≤ maxLen) :
    Calls Try.prog 92 #[.string s] w fun e w' => e = .returned (.bool (bracketB s.toList)) ∧ w = w' := by
  unfold maxLen at hs
  have hsz := Lib.hid (size_toList s)
  by_cases h1 : s.size < 4
  · have h1i : (s.size : Int) < 4 := by omega
    have hfin := Lib.hid (show bracketB s.toList = false by unfold bracketB; rw [decide_eq_false (by rw [← hsz.out]; omega : ¬ 4 ≤ s.toList.length)]; rfl)
    go_enter Try.func92, Try.ntmps92
    go_wp2
    go_ret
    exact ⟨ret_bool hfin.out.symm, rfl⟩
  have h1i : (4 : Int) ≤ s.size := by omega
  by_cases h2 : 47 < s.size
  · have h2i : (47 : Int) < s.size := by omega
    have hfin := Lib.hid (show bracketB s.toList = false by unfold bracketB; rw [decide_eq_false (by rw [← hsz.out]; omega : ¬ s.toList.length ≤ 47), Bool.and_false]; rfl)
    go_enter Try.func92, Try.ntmps92
    go_wp2
    go_ret
    exact ⟨ret_bool hfin.out.symm, rfl⟩
  have h2i : (s.size : Int) ≤ 47 := by omega
  have h0 : 0 < s.size := by omega
  have hl : s.size - 1 < s.size := by omega
  have hbr := Lib.hid (show bracketB s.toList = (s.toList.getD 0 0 == 91 && s.toList.getD (s.size - 1) 0 == 93 && ((s.toList.drop 1).take (s.size - 2)).all hexB) by
    unfold bracketB; rw [← hsz.out, decide_eq_true (by omega), decide_eq_true (by omega)]; rfl)
  have hw1 : ((s.size : Int) - 1).toNat = s.size - 1 := by omega
  by_cases h3 : (s.toList.getD 0 0 == 91) = true
  case neg =>
    have h3' : (s.toList.getD 0 0 == 91) = false := by simpa using h3
    have h3i : (((s[0].toNat : Int)) != 91) = true := by rw [get_l, nec 91 (i := 91) rfl, h3']; rfl
    have hfin := Lib.hid (show bracketB s.toList = false by rw [hbr.out, h3']; rfl)
    clear h3 h3'
    go_enter Try.func92, Try.ntmps92
    go_wp2
    go_ret
    exact ⟨ret_bool hfin.out.symm, rfl⟩
  have h3i : (((s[0].toNat : Int)) != 91) = false := by rw [get_l, nec 91 (i := 91) rfl, h3]; rfl
  by_cases h4 : (s.toList.getD (s.size - 1) 0 == 93) = true
  case neg =>
    have h4' : (s.toList.getD (s.size - 1) 0 == 93) = false := by simpa using h4
    have h4i : (((s[s.size - 1].toNat : Int)) != 93) = true := by rw [get_l, nec 93 (i := 93) rfl, h4']; rfl
    have hfin := Lib.hid (show bracketB s.toList = false by rw [hbr.out, h4', Bool.and_false]; rfl)
    clear h3 h4 h4'
    go_enter Try.func92, Try.ntmps92
    go_wp2
    go_ret
    exact ⟨ret_bool hfin.out.symm, rfl⟩
  have h4i : (((s[s.size - 1].toNat : Int)) != 93) = false := by rw [get_l, nec 93 (i := 93) rfl, h4]; rfl
  have hbr2 := Lib.hid (show bracketB s.toList = ((s.toList.drop 1).take (s.toList.length - 2)).all hexB by rw [hbr.out, h3, h4, ← hsz.out]; rfl)
  clear h3 h4 hbr
  go_enter Try.func92, Try.ntmps92
  go_wp2
  go_loop [3] (fun i => ∃ k : Nat, 1 ≤ k ∧ k ≤ s.size - 1 ∧ i = .int .i64 k ∧ Hid (∀ j, 1 ≤ j → j < k → hexB (s.toList.getD j 0) = true)) (fun i => s.size - (intOf i).toNat)
  case atStart => exact ⟨1, Nat.le_refl _, by omega, rfl, fun j hj hj' => absurd hj (by omega)⟩
  case round =>
    obtain ⟨k, hk1, hk, rfl, hall⟩ := hrel
    by_cases hlt : k < s.size - 1
    · have hlti : decide ((k : Int) < (s.size : Int) - 1) = true := decide_eq_true (by omega)
      have hlt2 : k < s.size := by omega
      have hlt2i : (k : Int) < s.size := by omega
      have hx := Lib.hid (get_l s k hlt2)
      have hgood := Lib.hid (fun (h : hexB s[k] = true) => show ∀ j, 1 ≤ j → j < k + 1 → hexB (s.toList.getD j 0) = true from fun j h1 h2 => by
        rcases Nat.lt_or_ge j k with h3 | h3
        · exact hall.out j h1 h3
        · obtain rfl : j = k := by omega
          rw [← hx.out]; exact h)
      have hbad := Lib.hid (fun (h : hexB s[k] = false) => show bracketB s.toList = false by
        rw [hbr2.out, Bool.eq_false_iff, ne_eq, inner_all]
        intro h2
        have := h2 k hk1 (by rw [← hsz.out]; exact hlt)
        rw [← hx.out, h] at this
        exact absurd this (by decide))
      generalize hd : s[k] = d at *
      have hD := Lib.hid hd
      clear hd
      rcases @hex_cases d with ⟨hy, hc⟩ | ⟨hn, ⟨hm, hm'⟩, hc⟩
      · have hY := Lib.hid hy
        clear hy
        rcases hc with ⟨q1, q2⟩ | ⟨q1, q2⟩ | q1 | q1
        · rw [← hD.out] at q1 q2
          go_wp2
          go_round
          case rel => exact ⟨k + 1, by omega, by omega, by go_num, hgood.out hY.out⟩
          case measure => simp [intOf]; omega
        · have q3 : decide ((d.toNat : Int) ≤ 57) = false := decide_eq_false (by omega)
          have q4 : (48 : Int) ≤ d.toNat := by omega
          rw [← hD.out] at q1 q2 q3 q4
          go_wp2
          go_round
          case rel => exact ⟨k + 1, by omega, by omega, by go_num, hgood.out hY.out⟩
          case measure => simp [intOf]; omega
        · have q2 : ((s[k].toNat : Int)) = 58 := by rw [hD.out, q1]; rfl
          go_wp2
          go_round
          case rel => exact ⟨k + 1, by omega, by omega, by go_num, hgood.out hY.out⟩
          case measure => simp [intOf]; omega
        · have q2 : ((s[k].toNat : Int)) = 46 := by rw [hD.out, q1]; rfl
          go_wp2
          go_round
          case rel => exact ⟨k + 1, by omega, by omega, by go_num, hgood.out hY.out⟩
          case measure => simp [intOf]; omega
      · have hN := Lib.hid hn
        clear hn
        rw [← hD.out] at hm hm'
        rcases hc with q1 | ⟨q1, q2⟩ | q1
        · have q3 : (d.toNat : Int) < 97 := by omega
          rw [← hD.out] at q1 q3
          go_wp2
          go_ret; exact ⟨ret_bool (hbad.out hN.out).symm, rfl⟩
        · have q3 : (48 : Int) ≤ d.toNat := by omega
          have q6 : decide ((d.toNat : Int) ≤ 57) = false := decide_eq_false (by omega)
          rw [← hD.out] at q1 q2 q3 q6
          go_wp2
          go_ret; exact ⟨ret_bool (hbad.out hN.out).symm, rfl⟩
        · have q3 : (48 : Int) ≤ d.toNat := by omega
          have q4 : (57 : Int) < d.toNat := by omega
          have q5 : (97 : Int) ≤ d.toNat := by omega
          have q6 : decide ((d.toNat : Int) ≤ 57) = false := decide_eq_false (by omega)
          have q7 : decide ((d.toNat : Int) ≤ 102) = false := decide_eq_false (by omega)
          rw [← hD.out] at q1 q3 q4 q5 q6 q7
          go_wp2
          go_ret; exact ⟨ret_bool (hbad.out hN.out).symm, rfl⟩
    · obtain rfl : k = s.size - 1 := by omega
      have hlti : decide (((s.size - 1 : Nat) : Int) < (s.size : Int) - 1) = false := decide_eq_false (by omega)
      have hf := Lib.hid (show bracketB s.toList = true by
        rw [hbr2.out, inner_all]; intro j h1 h2; exact hall.out j h1 (by rw [hsz.out]; exact h2))
      go_wp2
      go_ret
      exact ⟨ret_bool hf.out.symm, rfl⟩
end Go.Proofs.Ytgfoaopfdpclhaa
