/-
  The walks of package ascii, fifth part: the reference's numbers; texts of numbers; small letters.
-/
import Derived.Test.YtgfoaopfdpclhaaAscii4
namespace Go.Proofs.Ytgfoaopfdpclhaa
open Go.RowKit
set_option linter.unusedVariables false

set_option maxHeartbeats 2000000 in
theorem refNumber_any (s : ByteArray) (w : World) (hs : s.size ≤ maxLen) :
    Calls Try.prog 36 #[.string s] w fun e w' => e = .returned (.tuple #[.int .i64 (numV s.toList), .bool (numOk s.toList)]) ∧ w = w' := by
  have hs' := hs
  unfold maxLen at hs'
  have hsz := Lib.hid (size_toList s)
  obtain ⟨T, f, hcase⟩ : ∃ (T : ByteArray) (f : Nat), (numNeg s.toList = true ∧ (1 : Int) ≤ s.size ∧ (∃ h : 0 < s.size, ((s[0].toNat : Int) == 45) = true) ∧ s.extract 1 s.size = T ∧ f = 1) ∨
      (numNeg s.toList = false ∧ decide (0 < s.size) = false ∧ s.extract 0 s.size = T ∧ f = 0) ∨ (numNeg s.toList = false ∧ 0 < s.size ∧ (∃ h : 0 < s.size, ((s[0].toNat : Int) == 45) = false) ∧ s.extract 0 s.size = T ∧ f = 0) := by
    by_cases h0 : 0 < s.size
    · cases hg : (s.toList.getD 0 0 == 45)
      · refine ⟨_, 0, Or.inr (Or.inr ⟨?_, h0, ⟨h0, ?_⟩, rfl, rfl⟩)⟩
        · unfold numNeg; rw [hg]; simp
        · rw [get_l, eqc 45 (i := 45) rfl]; exact hg
      · refine ⟨s.extract 1 s.size, 1, Or.inl ⟨?_, by omega, ⟨h0, ?_⟩, rfl, rfl⟩⟩
        · unfold numNeg; rw [hg, ← hsz.out]; simpa using h0
        · rw [get_l, eqc 45 (i := 45) rfl]; exact hg
    · refine ⟨_, 0, Or.inr (Or.inl ⟨?_, decide_eq_false h0, rfl, rfl⟩)⟩
      unfold numNeg; rw [← hsz.out]; simp; omega
  have hT : numT s.toList = T.toList ∧ T.size + f = s.size ∧ T.toList = s.toList.drop f := by
    unfold numT
    rcases hcase with ⟨h1, h2, _, rfl, rfl⟩ | ⟨h1, _, rfl, rfl⟩ | ⟨h1, _, _, rfl, rfl⟩
    · rw [h1, extract_from, S_toList, S_size, if_pos rfl, List.length_drop, ← hsz.out]; exact ⟨rfl, by omega, rfl⟩
    · rw [h1, extract_from, S_toList, S_size, List.length_drop, ← hsz.out]; exact ⟨by simp, by omega, rfl⟩
    · rw [h1, extract_from, S_toList, S_size, List.length_drop, ← hsz.out]; exact ⟨by simp, by omega, rfl⟩
  have hTe := Lib.hid hT.1
  have hTf := Lib.hid hT.2.2
  have hf : T.size + f ≤ s.size ∧ s.size ≤ T.size + f := by have := hT.2.1; omega
  have hTs : T.size ≤ 9223372036854775807 := by omega
  have hTm : T.size ≤ maxLen := by unfold maxLen; omega
  clear hT
  have hTz := Lib.hid (size_toList T)
  have hle := digN_le T.toList
  rw [← hTz.out] at hle
  by_cases hok : 0 < T.size ∧ digN T.toList = T.size
  · have hO := Lib.hid (show numOk s.toList = true by unfold numOk; rw [hTe.out, ← hTz.out]; simpa using hok)
    have hall := Lib.hid (fun j (hj : j < T.size) => digN_all T.toList j (by omega))
    have hpos := hok.1
    have hdg : ¬ ((digN T.toList : Int) < (s.size : Int) - f) := by omega
    clear hok hle
    have hbd := Lib.hid (fun k (hk : k ≤ T.size) => valTo_bd T.toList k (fun j hj => hall.out j (by omega)))
    have hV := Lib.hid (show numV s.toList = if numNeg s.toList then -(valTo (numT s.toList) (numT s.toList).length) else valTo (numT s.toList) (numT s.toList).length by unfold numV; rw [hO.out, if_pos rfl])
    rcases hcase with ⟨h1, h3, ⟨h4, h5⟩, h6, h7⟩ | ⟨h1, h2, h6, h7⟩ | ⟨h1, h2, ⟨h4, h5⟩, h6, h7⟩
    · subst h7
      have hN := Lib.hid h1
      clear h1
      have e1 : ((s.size : Int) == 1) = false := beq_eq_false_iff_ne.2 (by omega)
      have e2 : decide ((digN T.toList : Int) < (s.size : Int) - 1) = false := decide_eq_false hdg
      go_enter Try.func36, Try.ntmps36
      go_wp2_with (go_at_call 58; refine (refDigits_any _ _ hTm).mono ?_; rintro e w' ⟨rfl, rfl⟩)
      go_loop [5, 6] (fun n i => ∃ k : Nat, k ≤ T.size ∧ i = .int .i64 ((k : Int) + 1) ∧ n = .int .i64 (valTo T.toList k)) (fun _ i => s.size - (intOf i).toNat)
      case atStart => exact ⟨0, Nat.zero_le _, rfl, rfl⟩
      case round =>
        obtain ⟨k, hk, rfl, rfl⟩ := hrel
        obtain ⟨hb1, hb2⟩ := hbd.out k hk
        by_cases hlt : k < T.size
        · have hlt2 : k + 1 < s.size := by omega
          have hx := Lib.hid (show s[k + 1] = T.toList.getD k 0 by rw [get_l, hTf.out, drop_take_getD]; congr 1; omega)
          have hd := hall.out k hlt
          rw [← hx.out] at hd
          unfold digitB at hd
          simp only [decide_eq_true_eq] at hd
          obtain ⟨hd1, hd2⟩ := hd
          have hst := Lib.hid (show valTo T.toList (k + 1) = min (valTo T.toList k * 10 + ((s[k + 1].toNat : Int) - 48)) 1099511627776 by rw [valTo, ← hx.out])
          go_wp2
          all_goals
            go_round
            case rel =>
              refine ⟨k + 1, by omega, by go_num, ?_⟩
              rw [hst.out]
              congr 1
              omega
            case measure => simp [intOf]; omega
        · obtain rfl : k = T.size := by omega
          go_wp2
          go_ret2
          refine ⟨ret_two ?_ hO.out.symm, rfl⟩
          rw [hV.out, hN.out, hTe.out, ← hTz.out]
          simp
    · exact absurd h2 (by rw [decide_eq_false_iff_not]; omega)
    · subst h7
      have hN := Lib.hid h1
      clear h1
      have e1 : ((s.size : Int) == 0) = false := beq_eq_false_iff_ne.2 (by omega)
      have e2 : decide (digN T.toList < s.size) = false := by rw [decide_eq_false_iff_not]; omega
      go_enter Try.func36, Try.ntmps36
      go_wp2_with (go_at_call 58; refine (refDigits_any _ _ hTm).mono ?_; rintro e w' ⟨rfl, rfl⟩)
      go_loop [5, 6] (fun n i => ∃ k : Nat, k ≤ T.size ∧ i = .int .i64 k ∧ n = .int .i64 (valTo T.toList k)) (fun _ i => s.size - (intOf i).toNat)
      case atStart => exact ⟨0, Nat.zero_le _, rfl, rfl⟩
      case round =>
        obtain ⟨k, hk, rfl, rfl⟩ := hrel
        obtain ⟨hb1, hb2⟩ := hbd.out k hk
        by_cases hlt : k < T.size
        · have hlt2 : k < s.size := by omega
          have hx := Lib.hid (show s[k] = T.toList.getD k 0 by rw [get_l, hTf.out, drop_take_getD]; congr 1; omega)
          have hd := hall.out k hlt
          rw [← hx.out] at hd
          unfold digitB at hd
          simp only [decide_eq_true_eq] at hd
          obtain ⟨hd1, hd2⟩ := hd
          have hst := Lib.hid (show valTo T.toList (k + 1) = min (valTo T.toList k * 10 + ((s[k].toNat : Int) - 48)) 1099511627776 by rw [valTo, ← hx.out])
          go_wp2
          all_goals
            go_round
            case rel =>
              refine ⟨k + 1, by omega, by go_num, ?_⟩
              rw [hst.out]
              congr 1
              omega
            case measure => simp [intOf]; omega
        · obtain rfl : k = T.size := by omega
          go_wp2
          go_ret2
          refine ⟨ret_two ?_ hO.out.symm, rfl⟩
          rw [hV.out, hN.out, hTe.out, ← hTz.out]
          simp
  · have hO := Lib.hid (show numOk s.toList = false by unfold numOk; rw [hTe.out, ← hTz.out]; simpa using hok)
    have hO2 := Lib.hid (show numV s.toList = 0 by unfold numV; rw [hO.out]; rfl)
    have hcs : (s.size = f) ∨ (f < s.size ∧ digN T.toList < T.size) := by omega
    clear hok
    rcases hcase with ⟨h1, h3, ⟨h4, h5⟩, h6, h7⟩ | ⟨h1, h2, h6, h7⟩ | ⟨h1, h2, ⟨h4, h5⟩, h6, h7⟩
    all_goals
      subst h7
      have h1 := Lib.hid h1
    · rcases hcs with hc | ⟨hc, hd⟩
      · have e1 : ((s.size : Int) == 1) = true := beq_iff_eq.2 (by omega)
        clear hc
        go_enter Try.func36, Try.ntmps36
        go_wp2
        go_ret2
        exact ⟨ret_two hO2.out.symm hO.out.symm, rfl⟩
      · have e1 : ((s.size : Int) == 1) = false := beq_eq_false_iff_ne.2 (by omega)
        have e2 : decide ((digN T.toList : Int) < (s.size : Int) - 1) = true := decide_eq_true (by omega)
        go_enter Try.func36, Try.ntmps36
        go_wp2_with (go_at_call 58; refine (refDigits_any _ _ hTm).mono ?_; rintro e w' ⟨rfl, rfl⟩)
        go_ret2
        exact ⟨ret_two hO2.out.symm hO.out.symm, rfl⟩
    · have h0 : s.size = 0 := by simpa using h2
      have e1 : ((s.size : Int) == 0) = true := beq_iff_eq.2 (by omega)
      clear hcs h0
      go_enter Try.func36, Try.ntmps36
      go_wp2
      go_ret2
      exact ⟨ret_two hO2.out.symm hO.out.symm, rfl⟩
    · have e1 : ((s.size : Int) == 0) = false := beq_eq_false_iff_ne.2 (by omega)
      have e2 : decide (digN T.toList < s.size) = true := by rw [decide_eq_true_eq]; omega
      have e3 : digN T.toList < s.size := by omega
      clear hcs
      go_enter Try.func36, Try.ntmps36
      go_wp2_with (go_at_call 58; refine (refDigits_any _ _ hTm).mono ?_; rintro e w' ⟨rfl, rfl⟩)
      go_ret2
      exact ⟨ret_two hO2.out.symm hO.out.symm, rfl⟩

/-- The decimal digits of a number. -/
def upL (n : Nat) : List UInt8 := if n < 10 then [48 + UInt8.ofNat n] else upL (n / 10) ++ [48 + UInt8.ofNat (n % 10)]
termination_by n
decreasing_by omega
theorem upL_small {n : Nat} (h : n < 10) : upL n = [48 + UInt8.ofNat (n % 10)] := by
  rw [upL, if_pos h, Nat.mod_eq_of_lt h]
theorem upL_big {n : Nat} (h : ¬ n < 10) : upL n = upL (n / 10) ++ [48 + UInt8.ofNat (n % 10)] := by
  rw [upL, if_neg h]
theorem upL_len (n : Nat) (k : Nat) (h : n < 10 ^ k) (hk : 0 < k) : (upL n).length ≤ k := by
  induction k generalizing n with
  | zero => omega
  | succ k ih =>
    by_cases h9 : n < 10
    · rw [upL_small h9]; simp
    · rw [upL_big h9]
      have : 0 < k := by
        rcases Nat.eq_zero_or_pos k with h0 | h0
        · subst h0; simp at h; omega
        · exact h0
      have := ih (n / 10) (by rw [Nat.pow_succ] at h; omega) this
      simp
      omega

set_option maxHeartbeats 1000000 in
theorem up_any (x : Int) (w : World) (hx : 0 ≤ x) (h : x < 18446744073709551616) :
    Calls Try.prog 48 #[.int .u64 x] w fun e w' => e = .returned (.string (S (upL x.toNat))) ∧ Below w.heap.size w w' := by
  obtain ⟨n, rfl⟩ := Int.eq_ofNat_of_zero_le hx
  rw [Int.toNat_natCast]
  clear hx
  replace h : n < 18446744073709551616 := by omega
  induction n using Nat.strongRecOn generalizing w with
  | ind n ih =>
    have hm : n % 10 < 10 := Nat.mod_lt _ (by omega)
    by_cases h9 : n < 10
    · have hU := Lib.hid (upL_small h9)
      clear ih
      go_enter Try.func48, Try.ntmps48
      go_wp2
      go_ret
      exact ⟨ret_str (by rw [hU.out, UInt8.ofNat_add]; rfl), (Below.refl _ _).alloc (Nat.le_refl _) _⟩
    · have hU := Lib.hid (upL_big h9)
      have h10 := Lib.hid (fun w => ih (n / 10) (by omega) w (by omega))
      clear ih
      have hdiv := Lib.hid (show ((n : Int) / 10) = ((n / 10 : Nat) : Int) by omega)
      go_enter Try.func48, Try.ntmps48
      go_wp2_with fail
      rw [hdiv.out]
      refine (h10.out _).mono ?_
      rintro e w1 ⟨rfl, hb1⟩
      have hlen := upL_len (n / 10) 20 (by omega) (by omega)
      go_wp2
      go_ret
      refine ⟨ret_str (by rw [hU.out]), ?_⟩
      exact bel_onto ((Below.refl _ _).alloc (Nat.le_refl _) _) hb1 (by simp)
def textL (n : Int) : List UInt8 := if n < 0 then 45 :: upL (-n).toNat else upL n.toNat

set_option maxHeartbeats 1000000 in
theorem text_any (n : Int) (w : World) (h1 : -9223372036854775808 ≤ n) (h2 : n ≤ 9223372036854775807) :
    Calls Try.prog 23 #[.int .i64 n] w fun e w' => e = .returned (.string (S (textL n))) ∧ Below w.heap.size w w' := by
  by_cases h0 : n < 0
  · have hr := Lib.hid (show textL n = 45 :: upL (-n).toNat by unfold textL; rw [if_pos h0])
    have hlen := upL_len (-n).toNat 20 (by omega) (by omega)
    go_enter Try.func23, Try.ntmps23
    go_wp2_with fail
    rw [show -(n + 1) + 1 = -n by omega]
    refine (up_any _ _ (by omega) (by omega)).mono ?_
    rintro e w1 ⟨rfl, hb1⟩
    go_wp2
    go_ret
    exact ⟨ret_str (by rw [hr.out, append_S, S_toList, ByteArray.toList_mk]; rfl), hb1⟩
  · have hr := Lib.hid (show textL n = upL n.toNat by unfold textL; rw [if_neg h0])
    go_enter Try.func23, Try.ntmps23
    go_wp2_with fail
    refine (up_any _ _ (by omega) (by omega)).mono ?_
    rintro e w1 ⟨rfl, hb1⟩
    go_wp2
    go_ret
    exact ⟨ret_str (by rw [hr.out]), hb1⟩

theorem textL_neg {n : Int} (h : n < 0) : textL n = 45 :: upL (-n).toNat := by unfold textL; rw [if_pos h]
theorem textL_pos {n : Int} (h : ¬ n < 0) : textL n = upL n.toNat := by unfold textL; rw [if_neg h]
set_option maxHeartbeats 1000000 in
theorem refText_pos (n : Nat) (w : World) (h2 : n ≤ 9223372036854775807) :
    Calls Try.prog 28 #[.int .i64 n] w fun e w' => e = .returned (.string (S (upL n))) ∧ Below w.heap.size w w' := by
  have e1 : decide ((n : Int) < 0) = false := decide_eq_false (by omega)
  have hlen := upL_len n 20 (by omega) (by omega)
  go_enter Try.func28, Try.ntmps28
  go_wp2
  go_loopw [0, 3] (fun p o wr => ∃ (m : Nat) (acc : List UInt8), p = .int .i64 m ∧ o = .string (S acc) ∧ m ≤ n ∧ Below w.heap.size w wr ∧ w.heap.size ≤ wr.heap.size ∧ (upL m).length + acc.length ≤ 20 ∧ Hid (upL n = upL m ++ acc)) (fun p _ _ => (intOf p).toNat)
  case atStart => exact ⟨n, [], rfl, rfl, Nat.le_refl _, Below.refl _ _, Nat.le_refl _, by simpa using hlen, by show _ = _; simp⟩
  case round =>
    obtain ⟨m, acc, rfl, rfl, hm, hbel, hsz, hl, hch⟩ := hrel
    have hmod : m % 10 < 10 := Nat.mod_lt _ (by omega)
    by_cases h9 : m < 10
    · have hU := Lib.hid (upL_small h9)
      have hl2 := hl
      rw [hU.out] at hl2
      simp at hl2
      go_wp2
      go_ret
      refine ⟨ret_str ?_, hbel.alloc hsz _⟩
      rw [hch.out, hU.out, Nat.mod_eq_of_lt h9]
      rfl
    · have hU := Lib.hid (upL_big h9)
      have hl2 := hl
      rw [hU.out] at hl2
      simp at hl2
      have hx1 := Lib.hid (show ((m : Int) / 10) = ((m / 10 : Nat) : Int) by omega)
      go_wp2
      go_roundw
      case rel =>
        refine ⟨m / 10, (48 + UInt8.ofNat (m % 10)) :: acc, by rw [hx1.out], rfl, by omega, hbel.alloc hsz _, by simp; omega, by simp; omega, ?_⟩
        show _ = _
        rw [hch.out, hU.out]
        simp
      case measure => simp [intOf]; omega

set_option maxHeartbeats 2000000 in
theorem refText_any (n : Int) (w : World) (h1 : -9223372036854775808 ≤ n) (h2 : n ≤ 9223372036854775807) :
    Calls Try.prog 28 #[.int .i64 n] w fun e w' => e = .returned (.string (S (textL n))) ∧ Below w.heap.size w w' := by
  by_cases h0 : n < 0
  · obtain ⟨m, rfl⟩ : ∃ m : Nat, n = -(m : Int) := ⟨(-n).toNat, by omega⟩
    have hm0 : 0 < m := by omega
    have hm1 : m ≤ 9223372036854775808 := by omega
    rw [textL_neg h0, show (- -(m : Int)).toNat = m by omega]
    clear h1 h2
    induction m using Nat.strongRecOn generalizing w with
    | ind m ih =>
      have hlen := upL_len m 20 (by omega) (by omega)
      by_cases h9 : m < 10
      · clear ih
        have e2 : decide (-10 < -(m : Int)) = true := decide_eq_true (by omega)
        have e3 : -10 < -(m : Int) := by omega
        have hU := Lib.hid (upL_small h9)
        go_enter Try.func28, Try.ntmps28
        go_wp2_with fail
        refine (refText_pos m _ (by omega)).mono ?_
        rintro e w1 ⟨rfl, hb1⟩
        go_wp2
        go_ret
        exact ⟨ret_str (by rw [append_S, S_toList, ByteArray.toList_mk]; rfl), hb1⟩
      · have hU := Lib.hid (upL_big h9)
        have hI := Lib.hid (fun w => ih (m / 10) (by omega) w (by omega) (by omega) (by omega))
        clear ih
        go_enter Try.func28, Try.ntmps28
        go_wp2_with fail
        rw [show -((m : Int) / 10) = -((m / 10 : Nat) : Int) by omega]
        refine (hI.out _).mono ?_
        rintro e w1 ⟨rfl, hb1⟩
        go_wp2_with fail
        rw [show ((m : Int) % 10) = ((m % 10 : Nat) : Int) by omega]
        have hmd : m % 10 < 10 := Nat.mod_lt _ (by omega)
        have hU2 := Lib.hid (upL_small hmd)
        refine (refText_pos (m % 10) _ (by omega)).mono ?_
        rintro e w2 ⟨rfl, hb2⟩
        have hl10 := upL_len (m / 10) 20 (by omega) (by omega)
        have hl11 : (upL (m % 10)).length ≤ 20 := upL_len (m % 10) 20 (by omega) (by omega)
        go_wp2
        go_ret
        refine ⟨ret_str ?_, bel_onto hb1 hb2 hb1.size⟩
        rw [hU.out, hU2.out, Nat.mod_mod]
  · obtain ⟨m, rfl⟩ := Int.eq_ofNat_of_zero_le (by omega : 0 ≤ n)
    rw [textL_pos h0, Int.toNat_natCast]
    exact refText_pos m w (by omega)
end Go.Proofs.Ytgfoaopfdpclhaa
