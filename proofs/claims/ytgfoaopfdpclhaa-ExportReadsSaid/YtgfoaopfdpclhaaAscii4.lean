/-
  The walks of package ascii, fourth part: the reference's trimming, numbers, controls.
-/
import Derived.Test.YtgfoaopfdpclhaaAscii3
namespace Go.Proofs.Ytgfoaopfdpclhaa
open Go.RowKit
set_option linter.unusedVariables false

theorem blank_cases {c : UInt8} (h : blankB c = true) : (((c.toNat : Int)) == 32) = true ∨ ((((c.toNat : Int)) == 32) = false ∧ (((c.toNat : Int)) == 9) = true) := by
  unfold blankB at h
  simp only [decide_eq_true_eq, beq_iff_eq, beq_eq_false_iff_ne] at *
  omega
theorem blank_not {c : UInt8} (h : blankB c = false) : (((c.toNat : Int)) == 32) = false ∧ (((c.toNat : Int)) == 9) = false := by
  unfold blankB at h
  simp only [decide_eq_false_iff_not, beq_eq_false_iff_ne] at *
  omega

set_option maxHeartbeats 1000000 in
theorem refTrim_any (s : ByteArray) (w : World) (hs : s.size ≤ maxLen) :
    Calls Try.prog 72 #[.string s] w fun e w' => e = .returned (.string (S (trimL s.toList))) ∧ w = w' := by
  unfold maxLen at hs
  have hsz := Lib.hid (size_toList s)
  go_enter Try.func72, Try.ntmps72
  go_wp2
  go_loop [3] (fun p => ∃ k : Nat, p = .int .i64 k ∧ k ≤ s.size ∧ Hid (ltrim s.toList = ltrim (s.toList.drop k))) (fun p => s.size - (intOf p).toNat)
  case atStart => exact ⟨0, rfl, Nat.zero_le _, rfl⟩
  case round =>
    obtain ⟨k, rfl, hk, hch⟩ := hrel
    have hki : (k : Int) ≤ s.size := by omega
    by_cases hgo : k < s.size ∧ blankB (s.toList.getD k 0) = true
    · obtain ⟨hlt, hb⟩ := hgo
      have hlti : (k : Int) < s.size := by omega
      have hst := Lib.hid (ltrim_step (l := s.toList.drop k) (by simp; rw [← hsz.out]; omega) (by rw [drop_take_getD]; exact hb))
      have hb2 : blankB s[k] = true := by rw [get_l]; exact hb
      have hcs := blank_cases hb2
      clear hb hb2
      rcases hcs with h1 | ⟨h1, h2⟩
      all_goals
        go_wp2
        go_round
        case rel => exact ⟨k + 1, by go_num, by omega, by show _ = _; rw [hch.out, hst.out, List.drop_drop]⟩
        case measure => simp [intOf]; omega
    · have hend := Lib.hid (show ltrim (s.toList.drop k) = s.toList.drop k from ltrim_end (by
        by_cases h0 : k = s.size
        · exact Or.inl (by simp; rw [← hsz.out]; omega)
        · refine Or.inr ?_
          rw [drop_take_getD]
          cases hb : blankB (s.toList.getD (k + 0) 0)
          · rfl
          · exact absurd ⟨by omega, hb⟩ hgo))
      have hch2 := Lib.hid (show trimL s.toList = rtrim (s.toList.drop k) by unfold trimL; rw [hch.out, hend.out])
      have hcase : (decide (k < s.size) = false) ∨ (decide (k < s.size) = true ∧ k < s.size ∧ ∃ h : k < s.size, (((s[k].toNat : Int)) == 32) = false ∧ (((s[k].toNat : Int)) == 9) = false) := by
        by_cases h0 : k = s.size
        · exact Or.inl (decide_eq_false (by omega))
        · refine Or.inr ⟨decide_eq_true (by omega), by omega, by omega, blank_not ?_⟩
          rw [get_l]
          cases hb : blankB (s.toList.getD k 0)
          · rfl
          · exact absurd ⟨by omega, hb⟩ hgo
      clear hgo
      rcases hcase with he | ⟨he, hlti, hlt, hb1, hb2⟩
      all_goals
        go_wp2
        go_loop [4] (fun p => ∃ m : Nat, p = .int .i64 m ∧ k ≤ m ∧ m ≤ s.size ∧ Hid (rtrim (s.toList.drop k) = rtrim ((s.toList.drop k).take (m - k)))) (fun p => (intOf p).toNat)
        case atStart => exact ⟨s.size, rfl, hk, Nat.le_refl _, by show _ = _; rw [List.take_of_length_le (by simp; rw [← hsz.out]; omega)]⟩
        case round =>
          obtain ⟨m, rfl, hkm, hm, hcm⟩ := hrel
          clear he
          try clear hlti hb1 hb2
          have hlen := Lib.hid (show ((s.toList.drop k).take (m - k)).length = m - k by simp; rw [← hsz.out]; omega)
          have hext := Lib.hid (extract_S s k m)
          have hkmi : (k : Int) ≤ m := by omega
          have hmi : (m : Int) ≤ s.size := by omega
          by_cases h0 : m = k
          · have hfin := Lib.hid (show trimL s.toList = (s.toList.drop k).take (m - k) by rw [hch2.out, hcm.out, rtrim_end (Or.inl (by rw [hlen.out]; omega))])
            have hd : decide (k < m) = false := decide_eq_false (by omega)
            clear h0
            go_wp2
            go_ret
            exact ⟨ret_str (by rw [hfin.out, hext.out]), rfl⟩
          · have hd : k < m := by omega
            have hdi : (k : Int) < m := by omega
            have hpos : m - 1 < s.size := by omega
            have hposi : (1 : Int) ≤ m := by omega
            have hgd := Lib.hid (show ((s.toList.drop k).take (m - k)).getD (((s.toList.drop k).take (m - k)).length - 1) 0 = s[m - 1] by
              rw [hlen.out, List.getD_eq_getElem?_getD, List.getElem?_take, if_pos (by omega), List.getElem?_drop, ← List.getD_eq_getElem?_getD, get_l]; congr 1; omega)
            by_cases hb : blankB s[m - 1] = true
            · have hst := Lib.hid (rtrim_step (l := (s.toList.drop k).take (m - k)) (by rw [hlen.out]; omega) (by rw [hgd.out]; exact hb))
              have hcs := blank_cases hb
              clear hb h0
              rcases hcs with h1 | ⟨h1, h2⟩
              all_goals
                go_wp2
                go_round
                case rel => exact ⟨m - 1, by congr 1; omega, by omega, by omega, by show _ = _; rw [hcm.out, hst.out, hlen.out, List.take_take]; congr 2; omega⟩
                case measure => simp [intOf]; omega
            · obtain ⟨h1, h2⟩ := blank_not (show blankB s[m - 1] = false by simpa using hb)
              have hfin := Lib.hid (show trimL s.toList = (s.toList.drop k).take (m - k) by rw [hch2.out, hcm.out, rtrim_end (Or.inr (by rw [hgd.out]; simpa using hb))])
              clear hb h0
              go_wp2
              go_ret
              exact ⟨ret_str (by rw [hfin.out, hext.out]), rfl⟩

set_option maxHeartbeats 400000 in
theorem refControl_any (s : ByteArray) (w : World) (hs : s.size ≤ maxLen) :
    Calls Try.prog 55 #[.string s] w fun e w' => e = .returned (.bool (s.toList.any ctlB)) ∧ w = w' := by
  unfold maxLen at hs
  have hsz := Lib.hid (size_toList s)
  go_enter Try.func55, Try.ntmps55
  go_wp2
  go_loop [3, 4] (fun o i => ∃ (k : Nat) (b : Bool), k ≤ s.size ∧ i = .int .i64 k ∧ o = .bool b ∧ Hid ((s.toList.take k).any ctlB = b)) (fun _ i => s.size - (intOf i).toNat)
  case atStart => exact ⟨0, false, Nat.zero_le _, rfl, rfl, rfl⟩
  case round =>
    obtain ⟨k, b, hk, rfl, rfl, hall⟩ := hrel
    by_cases hlt : k < s.size
    · have hx := Lib.hid (get_l s k hlt)
      have ht := Lib.hid (any_step (p := ctlB) (l := s.toList) (by rw [← hsz.out]; exact hlt : k < s.toList.length))
      cases b
      · have hcs : ((((s[k].toNat : Int) < 32) ∧ ((((s[k].toNat : Int)) != 9) = true) ∧ ctlB s[k] = true) ∨ (((s[k].toNat : Int) < 32) ∧ ((((s[k].toNat : Int)) != 9) = false) ∧ ((((s[k].toNat : Int)) == 127) = false) ∧ ctlB s[k] = false) ∨ (decide ((s[k].toNat : Int) < 32) = false ∧ ((((s[k].toNat : Int)) == 127) = true) ∧ ctlB s[k] = true) ∨ (decide ((s[k].toNat : Int) < 32) = false ∧ ((((s[k].toNat : Int)) == 127) = false) ∧ ctlB s[k] = false)) := by
          unfold ctlB
          simp only [bne_iff_ne, bne_eq_false_iff_eq, beq_iff_eq, beq_eq_false_iff_ne, decide_eq_true_eq, decide_eq_false_iff_not]
          omega
        rcases hcs with ⟨h1, h2, h3⟩ | ⟨h1, h2, h2', h3⟩ | ⟨h1, h2, h3⟩ | ⟨h1, h2, h3⟩
        all_goals
          have h3 := Lib.hid h3
          go_wp2
          go_round
          case rel => exact ⟨k + 1, _, by omega, by go_num, rfl, by show _ = _; rw [ht.out, hall.out, ← hx.out]; exact h3.out⟩
          case measure => simp [intOf]; omega
      · go_wp2
        go_round
        case rel => exact ⟨k + 1, true, by omega, by go_num, rfl, by show _ = _; rw [ht.out, hall.out]; rfl⟩
        case measure => simp [intOf]; omega
    · obtain rfl : k = s.size := by omega
      go_wp2
      go_ret
      exact ⟨ret_bool (by have := hall.out; rw [hsz.out, List.take_length] at this; rw [this]), rfl⟩

/-- The number that the first k digits are, at most 2^40. -/
def valTo (l : List UInt8) : Nat → Int
  | 0 => 0
  | k + 1 => min (valTo l k * 10 + (((l.getD k 0).toNat : Int) - 48)) 1099511627776
theorem valTo_bd (l : List UInt8) (k : Nat) (h : ∀ j, j < k → digitB (l.getD j 0) = true) : 0 ≤ valTo l k ∧ valTo l k ≤ 1099511627776 := by
  induction k with
  | zero => simp [valTo]
  | succ k ih =>
    have h1 := ih (fun j hj => h j (by omega))
    have h2 := h k (by omega)
    unfold digitB at h2
    simp only [decide_eq_true_eq] at h2
    unfold valTo
    omega
def numNeg (l : List UInt8) : Bool := decide (0 < l.length) && l.getD 0 0 == 45
def numT (l : List UInt8) : List UInt8 := if numNeg l then l.drop 1 else l
def numOk (l : List UInt8) : Bool := decide (0 < (numT l).length) && decide (digN (numT l) = (numT l).length)
def numV (l : List UInt8) : Int := if numOk l then (if numNeg l then -(valTo (numT l) (numT l).length) else valTo (numT l) (numT l).length) else 0

theorem ret_two {k : IntKind} {a b : Int} {c d : Bool} (h : a = b) (h' : c = d) : Ending.returned (.tuple #[.int k a, .bool c]) = .returned (.tuple #[.int k b, .bool d]) := by rw [h, h']

set_option maxHeartbeats 2000000 in
theorem number_any (s : ByteArray) (w : World) (hs : s.size ≤ maxLen) :
    Calls Try.prog 57 #[.string s] w fun e w' => e = .returned (.tuple #[.int .i64 (numV s.toList), .bool (numOk s.toList)]) ∧ w = w' := by
  have hs' := hs
  unfold maxLen at hs'
  have hsz := Lib.hid (size_toList s)
  have hs0 := Lib.hid (isEmpty_size s)
  obtain ⟨T, hcase⟩ : ∃ T : ByteArray, (numNeg s.toList = true ∧ s.toList.isEmpty = false ∧ (1 : Int) ≤ s.size ∧ (∃ h : 0 < s.size, ((s[0].toNat : Int) == 45) = true) ∧ s.extract 1 s.size = T) ∨
      (numNeg s.toList = false ∧ s.toList.isEmpty = true ∧ s = T) ∨ (numNeg s.toList = false ∧ s.toList.isEmpty = false ∧ (∃ h : 0 < s.size, ((s[0].toNat : Int) == 45) = false) ∧ T = s) := by
    by_cases h0 : 0 < s.size
    · cases hg : (s.toList.getD 0 0 == 45)
      · refine ⟨s, Or.inr (Or.inr ⟨?_, ?_, ⟨h0, ?_⟩, rfl⟩)⟩
        · unfold numNeg; rw [hg]; simp
        · rw [hs0.out]; exact decide_eq_false (by omega)
        · rw [get_l, eqc 45 (i := 45) rfl]; exact hg
      · refine ⟨s.extract 1 s.size, Or.inl ⟨?_, ?_, by omega, ⟨h0, ?_⟩, rfl⟩⟩
        · unfold numNeg; rw [hg, ← hsz.out]; simpa using h0
        · rw [hs0.out]; exact decide_eq_false (by omega)
        · rw [get_l, eqc 45 (i := 45) rfl]; exact hg
    · refine ⟨s, Or.inr (Or.inl ⟨?_, ?_, rfl⟩)⟩
      · unfold numNeg; rw [← hsz.out]; simp; omega
      · rw [hs0.out]; exact decide_eq_true (by omega)
  have hT : numT s.toList = T.toList ∧ T.size ≤ s.size := by
    unfold numT
    rcases hcase with ⟨h1, _, _, _, rfl⟩ | ⟨h1, _, rfl⟩ | ⟨h1, _, _, rfl⟩
    · rw [h1, extract_from, S_toList, S_size, if_pos rfl, List.length_drop, ← hsz.out]; exact ⟨rfl, by omega⟩
    · rw [h1]; exact ⟨by simp, by omega⟩
    · rw [h1]; exact ⟨by simp, by omega⟩
  have hTe := Lib.hid hT.1
  have hTs : T.size ≤ 9223372036854775807 := by have := hT.2; omega
  have hTm : T.size ≤ maxLen := by unfold maxLen; omega
  clear hT
  have hTz := Lib.hid (size_toList T)
  have hT0 := Lib.hid (isEmpty_size T)
  have hle := digN_le T.toList
  rw [← hTz.out] at hle
  by_cases hok : 0 < T.size ∧ digN T.toList = T.size
  · have hO := Lib.hid (show numOk s.toList = true by unfold numOk; rw [hTe.out, ← hTz.out]; simpa using hok)
    have hall := Lib.hid (fun j (hj : j < T.size) => digN_all T.toList j (by omega))
    have hTe1 : T.toList.isEmpty = false := by rw [hT0.out]; exact decide_eq_false (by omega)
    have hdg : ¬ (digN T.toList < T.size) := by omega
    have hdg2 : decide (digN T.toList < T.size) = false := decide_eq_false hdg
    clear hok hle hdg
    have hbd := Lib.hid (fun k (hk : k ≤ T.size) => valTo_bd T.toList k (fun j hj => hall.out j (by omega)))
    rcases hcase with ⟨h1, h2, h3, ⟨h4, h5⟩, h6⟩ | ⟨h1, h2, rfl⟩ | ⟨h1, h2, ⟨h4, h5⟩, h7⟩
    all_goals
      have hV := Lib.hid (show numV s.toList = if numNeg s.toList then -(valTo (numT s.toList) (numT s.toList).length) else valTo (numT s.toList) (numT s.toList).length by unfold numV; rw [hO.out, if_pos rfl])
      have hN := Lib.hid h1
      clear h1
      first
      | exact absurd (h2.symm.trans hTe1) (by decide)
      | (try subst h7
         go_enter Try.func57, Try.ntmps57
         go_wp2_with (go_at_call 76; refine (digits_any _ _ hTm).mono ?_; rintro e w' ⟨rfl, rfl⟩)
         go_loop [6, 29] (fun n i => ∃ k : Nat, k ≤ T.size ∧ i = .int .i64 k ∧ n = .int .i64 (valTo T.toList k)) (fun _ i => T.size - (intOf i).toNat)
         case atStart => exact ⟨0, Nat.zero_le _, rfl, rfl⟩
         case round =>
           obtain ⟨k, hk, rfl, rfl⟩ := hrel
           obtain ⟨hb1, hb2⟩ := hbd.out k hk
           by_cases hlt : k < T.size
           · have hx := Lib.hid (get_l T k hlt)
             have hd := hall.out k hlt
             rw [← hx.out] at hd
             unfold digitB at hd
             simp only [decide_eq_true_eq] at hd
             obtain ⟨hd1, hd2⟩ := hd
             have hst := Lib.hid (show valTo T.toList (k + 1) = min (valTo T.toList k * 10 + ((T[k].toNat : Int) - 48)) 1099511627776 by rw [valTo, ← hx.out])
             go_wp2
             go_round
             case rel =>
               refine ⟨k + 1, by omega, by go_num, ?_⟩
               rw [hst.out]
               congr 1
               split <;> omega
             case measure => simp [intOf]; omega
           · obtain rfl : k = T.size := by omega
             go_wp2
             go_ret2
             refine ⟨ret_two ?_ hO.out.symm, rfl⟩
             rw [hV.out, hN.out, hTe.out, ← hTz.out]
             simp)
  · have hO := Lib.hid (show numOk s.toList = false by unfold numOk; rw [hTe.out, ← hTz.out]; simpa using hok)
    have hO2 := Lib.hid (show numV s.toList = 0 by unfold numV; rw [hO.out]; rfl)
    have hcs : (T.toList.isEmpty = true) ∨ (T.toList.isEmpty = false ∧ digN T.toList < T.size) := by
      by_cases h0 : 0 < T.size
      · exact Or.inr ⟨by rw [hT0.out]; exact decide_eq_false (by omega), by omega⟩
      · exact Or.inl (by rw [hT0.out]; exact decide_eq_true (by omega))
    clear hok
    rcases hcase with ⟨h1, h2, h3, ⟨h4, h5⟩, h6⟩ | ⟨h1, h2, rfl⟩ | ⟨h1, h2, ⟨h4, h5⟩, rfl⟩
    all_goals
      have h1 := Lib.hid h1
      rcases hcs with hc | ⟨hc, hd⟩
      all_goals first
        | exact absurd (h2.symm.trans hc) (by decide)
        | (go_enter Try.func57, Try.ntmps57
           go_wp2_with (go_at_call 76; refine (digits_any _ _ hTm).mono ?_; rintro e w' ⟨rfl, rfl⟩)
           go_ret2
           exact ⟨ret_two hO2.out.symm hO.out.symm, rfl⟩)
end Go.Proofs.Ytgfoaopfdpclhaa
