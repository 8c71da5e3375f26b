/-
  The walks: small words of export, the program's and the document's.
-/
import Derived.Test.YtgfoaopfdpclhaaExpP
import Derived.Test.YtgfoaopfdpclhaaRight2
import Derived.Test.YtgfoaopfdpclhaaShelf
namespace Go.Proofs.Ytgfoaopfdpclhaa
open Go.RowKit
set_option linter.unusedVariables false

theorem indexByte_cut (l : List UInt8) (c : UInt8) : decide (0 ≤ Lib.indexByte l c) = !(cutL l c).isNone := by
  induction l with
  | nil => rfl
  | cons x r ih =>
    rw [Lib.indexByte, cutL]
    by_cases h : (x == c) = true
    · rw [if_pos h, if_pos h]; rfl
    · rw [if_neg h, if_neg h]
      have hge := Lib.indexByte_ge r c
      have e : ((cutL r c).map fun p => (x :: p.1, p.2)).isNone = (cutL r c).isNone := by cases cutL r c <;> rfl
      rw [e, ← ih]
      by_cases h2 : (Lib.indexByte r c == -1) = true
      · rw [if_pos h2]
        have : Lib.indexByte r c = -1 := by simpa using h2
        rw [this]
      · rw [if_neg h2]
        have : Lib.indexByte r c ≠ -1 := by simpa using h2
        exact decide_eq_decide.2 (by omega)
theorem clean_any (s : List UInt8) (w : World) (hs : s.length ≤ 4294967296) :
    Calls Try.prog 22 #[.string (S s)] w fun e w' => e = .returned (.bool (cleanB s)) ∧ w = w' := by
  have hm : (S s).size ≤ maxLen := by unfold maxLen; simp; omega
  cases h : s.any ctlB with
  | true =>
    have hf := Lib.hid (show cleanB s = false by unfold cleanB; rw [h]; rfl)
    go_enter Try.func22, Try.ntmps22
    go_wp2_with fail
    refine (control_any (S s) w hm).mono ?_
    rintro e w1 ⟨rfl, rfl⟩
    rw [S_toList, h]
    go_wp2
    go_ret
    exact ⟨ret_bool hf.out.symm, rfl⟩
  | false =>
    have hf := Lib.hid (show cleanB s = (cutL s 9).isNone by unfold cleanB; rw [h]; rfl)
    have hi := Lib.hid (indexByte_cut s 9)
    go_enter Try.func22, Try.ntmps22
    go_wp2_with fail
    refine (control_any (S s) w hm).mono ?_
    rintro e w1 ⟨rfl, rfl⟩
    rw [S_toList, h]
    go_wp2_with fail
    refine (Try.strings_Contains_one (S s) 9 w).mono ?_
    rintro e w2 ⟨rfl, rfl⟩
    rw [show (S s).data.toList = s from rfl, hi.out]
    go_wp2
    go_ret
    exact ⟨ret_bool (by rw [hf.out]), rfl⟩
theorem refClean_any (s : List UInt8) (w : World) (hs : s.length ≤ 4294967296) :
    Calls Try.prog 27 #[.string (S s)] w fun e w' => e = .returned (.bool (cleanB s)) ∧ w = w' := by
  have hm : (S s).size ≤ maxLen := by unfold maxLen; simp; omega
  have hd := find_dec s 9
  cases h : s.any ctlB with
  | true =>
    have hf := Lib.hid (show cleanB s = false by unfold cleanB; rw [h]; rfl)
    clear hd
    go_enter Try.func27, Try.ntmps27
    go_wp2_with fail
    refine (refControl_any (S s) w hm).mono ?_
    rintro e w1 ⟨rfl, rfl⟩
    rw [S_toList, h]
    go_wp2
    go_ret
    exact ⟨ret_bool hf.out.symm, rfl⟩
  | false =>
    have hf := Lib.hid (show cleanB s = decide (findL s 9 < 0) by unfold cleanB; rw [h, hd]; rfl)
    clear hd
    go_enter Try.func27, Try.ntmps27
    go_wp2_with fail
    refine (refControl_any (S s) w hm).mono ?_
    rintro e w1 ⟨rfl, rfl⟩
    rw [S_toList, h]
    go_wp2_with fail
    refine (refFind_any (S s) 9 w hm).mono ?_
    rintro e w2 ⟨rfl, rfl⟩
    rw [S_toList]
    go_wp2
    go_ret
    exact ⟨ret_bool hf.out.symm, rfl⟩
theorem truth_any (b : Bool) (w : World) : Calls Try.prog 25 #[.bool b] w fun e w' => e = .returned (.string (S (truthL b))) ∧ w = w' := by
  cases b
  all_goals
    go_enter Try.func25, Try.ntmps25
    go_wp2
    go_ret
    exact ⟨rfl, rfl⟩
theorem refTruth_any (b : Bool) (w : World) : Calls Try.prog 29 #[.bool b] w fun e w' => e = .returned (.string (S (truthL b))) ∧ w = w' := by
  cases b
  all_goals
    go_enter Try.func29, Try.ntmps29
    go_wp2
    go_ret
    exact ⟨rfl, rfl⟩

/-- export.Passed. -/
theorem passed_any (s : List UInt8) (w : World) (hs : s.length ≤ 4294967296) :
    Calls Try.prog 14 #[.string (S s)] w fun e w' => e = .returned (.bool (passedB s)) ∧ w = w' := by
  have hm : (S s).size ≤ maxLen := by unfold maxLen; simp; omega
  by_cases h0 : s = []
  · subst h0
    go_enter Try.func14, Try.ntmps14
    go_wp2
    go_ret
    exact ⟨rfl, rfl⟩
  have e1 : (s == []) = false := by simpa using h0
  have e2 : s.isEmpty = false := by simpa using h0
  have h35 : Lib.hasPrefix s [35] = (s.getD 0 0 == 35) := by
    cases s with
    | nil => exact absurd rfl h0
    | cons a r =>
      show ((35 : UInt8) == a && List.isPrefixOf [] r) = (a == 35)
      rw [Bool.beq_comm]; simp
  clear h0
  cases h1 : Lib.hasPrefix s [35] with
  | false =>
    have hf := Lib.hid (show passedB s = false by unfold passedB; rw [e1, ← h35, h1]; rfl)
    clear h35
    go_enter Try.func14, Try.ntmps14
    go_wp2_with fail
    refine (hasPrefix_any (S s) (S [35]) w hm (by decide)).mono ?_
    rintro e w1 ⟨rfl, rfl⟩
    rw [S_toList, S_toList, h1]
    go_wp2
    go_ret
    exact ⟨ret_bool hf.out.symm, rfl⟩
  | true =>
    have hf := Lib.hid (show passedB s = !Lib.hasPrefix s hidT by unfold passedB; rw [e1, ← h35, h1]; rfl)
    clear h35
    go_enter Try.func14, Try.ntmps14
    go_wp2_with fail
    refine (hasPrefix_any (S s) (S [35]) w hm (by decide)).mono ?_
    rintro e w1 ⟨rfl, rfl⟩
    rw [S_toList, S_toList, h1]
    go_wp2_with fail
    refine (hasPrefix_any (S s) (S hidT) w hm (by decide)).mono ?_
    rintro e w2 ⟨rfl, rfl⟩
    rw [S_toList, S_toList]
    generalize Lib.hasPrefix s hidT = q at *
    go_wp2
    go_ret
    exact ⟨ret_bool hf.out.symm, rfl⟩

theorem pre_take {s t : List UInt8} : Lib.hasPrefix s t = (decide (t.length ≤ s.length) && (s.take t.length == t)) := by
  show t.isPrefixOf s = _
  rw [Bool.eq_iff_iff, List.isPrefixOf_iff_prefix, List.prefix_iff_eq_take]
  simp only [Bool.and_eq_true, decide_eq_true_eq, beq_iff_eq]
  constructor
  · intro h
    refine ⟨?_, h.symm⟩
    have := congrArg List.length h
    rw [List.length_take] at this
    omega
  · intro h; exact h.2.symm
theorem begins_any (s t : List UInt8) (w : World) (hs : s.length ≤ 4294967296) (ht : t.length ≤ 4294967296) :
    Calls Try.prog 35 #[.string (S s), .string (S t)] w fun e w' => e = .returned (.bool (Lib.hasPrefix s t)) ∧ w = w' := by
  by_cases h : t.length ≤ s.length
  · have hf := Lib.hid (show Lib.hasPrefix s t = (s.take t.length == t) by rw [pre_take, decide_eq_true h]; rfl)
    go_enter Try.func35, Try.ntmps35
    go_wp2
    go_ret
    exact ⟨ret_bool (by rw [hf.out, extract_to, S_toList, S_toList]), rfl⟩
  · have hf := Lib.hid (show Lib.hasPrefix s t = false by rw [pre_take, decide_eq_false h]; rfl)
    go_enter Try.func35, Try.ntmps35
    go_wp2
    go_ret
    exact ⟨ret_bool hf.out.symm, rfl⟩

theorem refPassed_any (s : List UInt8) (w : World) (hs : s.length ≤ 4294967296) :
    Calls Try.prog 15 #[.string (S s)] w fun e w' => e = .returned (.bool (passedB s)) ∧ w = w' := by
  by_cases h0 : s = []
  · subst h0
    go_enter Try.func15, Try.ntmps15
    go_wp2
    go_ret
    exact ⟨rfl, rfl⟩
  have e1 : (s == []) = false := by simpa using h0
  have e2 : s.isEmpty = false := by simpa using h0
  have e3 : 0 < s.length := by cases h : s with | nil => exact absurd h h0 | cons a b => simp
  clear h0
  cases h1 : (s.getD 0 0 == 35) with
  | false =>
    have hf := Lib.hid (show passedB s = false by unfold passedB; rw [e1, h1]; rfl)
    have g : ((((S s)[0]'(by rw [S_size]; exact e3)).toNat : Int) == 35) = false := by
      rw [get0 e3, beq_eq_false_iff_ne]
      intro e
      have : s.getD 0 0 = 35 := UInt8.toNat_inj.1 (show (s.getD 0 0).toNat = (35 : UInt8).toNat by have h47 : (35 : UInt8).toNat = 35 := rfl; omega)
      rw [this] at h1; cases h1
    clear h1
    go_enter Try.func15, Try.ntmps15
    go_wp2
    go_ret
    exact ⟨ret_bool hf.out.symm, rfl⟩
  | true =>
    have hf := Lib.hid (show passedB s = !Lib.hasPrefix s hidT by unfold passedB; rw [e1, h1]; rfl)
    have g : ((((S s)[0]'(by rw [S_size]; exact e3)).toNat : Int) == 35) = true := by
      have : s.getD 0 0 = 35 := by simpa using h1
      rw [get0 e3, this]; rfl
    clear h1
    go_enter Try.func15, Try.ntmps15
    go_wp2_with fail
    refine (begins_any s hidT w hs (by decide)).mono ?_
    rintro e w2 ⟨rfl, rfl⟩
    generalize Lib.hasPrefix s hidT = q at *
    go_wp2
    go_ret
    exact ⟨ret_bool hf.out.symm, rfl⟩
end Go.Proofs.Ytgfoaopfdpclhaa
