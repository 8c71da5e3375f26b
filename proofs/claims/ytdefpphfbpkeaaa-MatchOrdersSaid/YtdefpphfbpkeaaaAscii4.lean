/-
  The walks of package ascii, fourth part: the reference's trimming, numbers, controls.
-/
import Derived.Test.YtdefpphfbpkeaaaAscii3
namespace Go.Proofs.Ytdefpphfbpkeaaa
open Go.RowKit
set_option linter.unusedVariables false

theorem blank_cases {c : UInt8} (h : blankB c = true) : (((c.toNat : Int)) == 32) = true ∨ ((((c.toNat : Int)) == 32) = false ∧ (((c.toNat : Int)) == 9) = true) := by
  unfold blankB at h
  simp only [decide_eq_true_eq, beq_iff_eq, beq_eq_false_iff_ne] at *
  omega
theorem blank_not {c : UInt8} (h : blankB c = false) : (((c.toNat : Int)) == 32) = false ∧ (((c.toNat : Int)) == 9) = false := by
  unfold blankB at h
  simp only [decide_eq_false_iff_not, beq_eq_false_iff_ne] at *
  omega

/-- The number that the first k digits are, at most 2^40. -/
def valTo (l : List UInt8) : Nat → Int
  | 0 => 0
  | k + 1 => min (valTo l k * 10 + (((l.getD k 0).toNat : Int) - 48)) 1099511627776
theorem valTo_bd (l : List UInt8) (k : Nat) (h : ∀ j, j < k → digitB (l.getD j 0) = true) : 0 ≤ valTo l k ∧ valTo l k ≤ 1099511627776 := by
  induction k with
  | zero => simp [valTo]
  | succ k ih =>
    have h1 := ih (fun j hj => h j (by omega))
    have h2 := h k (by omega)
    unfold digitB at h2
    simp only [decide_eq_true_eq] at h2
    unfold valTo
    omega
def numNeg (l : List UInt8) : Bool := decide (0 < l.length) && l.getD 0 0 == 45
def numT (l : List UInt8) : List UInt8 := if numNeg l then l.drop 1 else l
def numOk (l : List UInt8) : Bool := decide (0 < (numT l).length) && decide (digN (numT l) = (numT l).length)
def numV (l : List UInt8) : Int := if numOk l then (if numNeg l then -(valTo (numT l) (numT l).length) else valTo (numT l) (numT l).length) else 0

theorem ret_two {k : IntKind} {a b : Int} {c d : Bool} (h : a = b) (h' : c = d) : Ending.returned (.tuple #[.int k a, .bool c]) = .returned (.tuple #[.int k b, .bool d]) := by rw [h, h']

set_option maxHeartbeats 2000000 in
theorem number_any (s : ByteArray) (w : World) (hs : s.size ≤ maxLen) :
    Calls Try.prog 101 #[.string s] w fun e w' => e = .returned (.tuple #[.int .i64 (numV s.toList), .bool (numOk s.toList)]) ∧ w = w' := by
  have hs' := hs
  unfold maxLen at hs'
  have hsz := Lib.hid (size_toList s)
  have hs0 := Lib.hid (isEmpty_size s)
  obtain ⟨T, hcase⟩ : ∃ T : ByteArray, (numNeg s.toList = true ∧ s.toList.isEmpty = false ∧ (1 : Int) ≤ s.size ∧ (∃ h : 0 < s.size, ((s[0].toNat : Int) == 45) = true) ∧ s.extract 1 s.size = T) ∨
      (numNeg s.toList = false ∧ s.toList.isEmpty = true ∧ s = T) ∨ (numNeg s.toList = false ∧ s.toList.isEmpty = false ∧ (∃ h : 0 < s.size, ((s[0].toNat : Int) == 45) = false) ∧ T = s) := by
    by_cases h0 : 0 < s.size
    · cases hg : (s.toList.getD 0 0 == 45)
      · refine ⟨s, Or.inr (Or.inr ⟨?_, ?_, ⟨h0, ?_⟩, rfl⟩)⟩
        · unfold numNeg; rw [hg]; simp
        · rw [hs0.out]; exact decide_eq_false (by omega)
        · rw [get_l, eqc 45 (i := 45) rfl]; exact hg
      · refine ⟨s.extract 1 s.size, Or.inl ⟨?_, ?_, by omega, ⟨h0, ?_⟩, rfl⟩⟩
        · unfold numNeg; rw [hg, ← hsz.out]; simpa using h0
        · rw [hs0.out]; exact decide_eq_false (by omega)
        · rw [get_l, eqc 45 (i := 45) rfl]; exact hg
    · refine ⟨s, Or.inr (Or.inl ⟨?_, ?_, rfl⟩)⟩
      · unfold numNeg; rw [← hsz.out]; simp; omega
      · rw [hs0.out]; exact decide_eq_true (by omega)
  have hT : numT s.toList = T.toList ∧ T.size ≤ s.size := by
    unfold numT
    rcases hcase with ⟨h1, _, _, _, rfl⟩ | ⟨h1, _, rfl⟩ | ⟨h1, _, _, rfl⟩
    · rw [h1, extract_from, S_toList, S_size, if_pos rfl, List.length_drop, ← hsz.out]; exact ⟨rfl, by omega⟩
    · rw [h1]; exact ⟨by simp, by omega⟩
    · rw [h1]; exact ⟨by simp, by omega⟩
  have hTe := Lib.hid hT.1
  have hTs : T.size ≤ 9223372036854775807 := by have := hT.2; omega
  have hTm : T.size ≤ maxLen := by unfold maxLen; omega
  clear hT
  have hTz := Lib.hid (size_toList T)
  have hT0 := Lib.hid (isEmpty_size T)
  have hle := digN_le T.toList
  rw [← hTz.out] at hle
  by_cases hok : 0 < T.size ∧ digN T.toList = T.size
  · have hO := Lib.hid (show numOk s.toList = true by unfold numOk; rw [hTe.out, ← hTz.out]; simpa using hok)
    have hall := Lib.hid (fun j (hj : j < T.size) => digN_all T.toList j (by omega))
    have hTe1 : T.toList.isEmpty = false := by rw [hT0.out]; exact decide_eq_false (by omega)
    have hdg : ¬ (digN T.toList < T.size) := by omega
    have hdg2 : decide (digN T.toList < T.size) = false := decide_eq_false hdg
    clear hok hle hdg
    have hbd := Lib.hid (fun k (hk : k ≤ T.size) => valTo_bd T.toList k (fun j hj => hall.out j (by omega)))
    rcases hcase with ⟨h1, h2, h3, ⟨h4, h5⟩, h6⟩ | ⟨h1, h2, rfl⟩ | ⟨h1, h2, ⟨h4, h5⟩, h7⟩
    all_goals
      have hV := Lib.hid (show numV s.toList = if numNeg s.toList then -(valTo (numT s.toList) (numT s.toList).length) else valTo (numT s.toList) (numT s.toList).length by unfold numV; rw [hO.out, if_pos rfl])
      have hN := Lib.hid h1
      clear h1
      first
      | exact absurd (h2.symm.trans hTe1) (by decide)
      | (try subst h7
         go_enter Try.func101, Try.ntmps101
         go_wp2_with (go_at_call 102; refine (digits_any _ _ hTm).mono ?_; rintro e w' ⟨rfl, rfl⟩)
         go_loop [6, 29] (fun n i => ∃ k : Nat, k ≤ T.size ∧ i = .int .i64 k ∧ n = .int .i64 (valTo T.toList k)) (fun _ i => T.size - (intOf i).toNat)
         case atStart => exact ⟨0, Nat.zero_le _, rfl, rfl⟩
         case round =>
           obtain ⟨k, hk, rfl, rfl⟩ := hrel
           obtain ⟨hb1, hb2⟩ := hbd.out k hk
           by_cases hlt : k < T.size
           · have hx := Lib.hid (get_l T k hlt)
             have hd := hall.out k hlt
             rw [← hx.out] at hd
             unfold digitB at hd
             simp only [decide_eq_true_eq] at hd
             obtain ⟨hd1, hd2⟩ := hd
             have hst := Lib.hid (show valTo T.toList (k + 1) = min (valTo T.toList k * 10 + ((T[k].toNat : Int) - 48)) 1099511627776 by rw [valTo, ← hx.out])
             go_wp2
             go_round
             case rel =>
               refine ⟨k + 1, by omega, by go_num, ?_⟩
               rw [hst.out]
               congr 1
               split <;> omega
             case measure => simp [intOf]; omega
           · obtain rfl : k = T.size := by omega
             go_wp2
             go_ret2
             refine ⟨ret_two ?_ hO.out.symm, rfl⟩
             rw [hV.out, hN.out, hTe.out, ← hTz.out]
             simp)
  · have hO := Lib.hid (show numOk s.toList = false by unfold numOk; rw [hTe.out, ← hTz.out]; simpa using hok)
    have hO2 := Lib.hid (show numV s.toList = 0 by unfold numV; rw [hO.out]; rfl)
    have hcs : (T.toList.isEmpty = true) ∨ (T.toList.isEmpty = false ∧ digN T.toList < T.size) := by
      by_cases h0 : 0 < T.size
      · exact Or.inr ⟨by rw [hT0.out]; exact decide_eq_false (by omega), by omega⟩
      · exact Or.inl (by rw [hT0.out]; exact decide_eq_true (by omega))
    clear hok
    rcases hcase with ⟨h1, h2, h3, ⟨h4, h5⟩, h6⟩ | ⟨h1, h2, rfl⟩ | ⟨h1, h2, ⟨h4, h5⟩, rfl⟩
    all_goals
      have h1 := Lib.hid h1
      rcases hcs with hc | ⟨hc, hd⟩
      all_goals first
        | exact absurd (h2.symm.trans hc) (by decide)
        | (go_enter Try.func101, Try.ntmps101
           go_wp2_with (go_at_call 102; refine (digits_any _ _ hTm).mono ?_; rintro e w' ⟨rfl, rfl⟩)
           go_ret2
           exact ⟨ret_two hO2.out.symm hO.out.symm, rfl⟩)
end Go.Proofs.Ytdefpphfbpkeaaa
