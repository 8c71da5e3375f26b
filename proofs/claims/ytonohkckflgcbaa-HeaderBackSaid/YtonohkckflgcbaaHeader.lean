/-
  The walks of package header, and of its reference.
-/
import Derived.Test.YtonohkckflgcbaaAscii6
import Derived.StillTailTactics
import Derived.Deep.RegionHeld3
namespace Go.Proofs.Ytonohkckflgcbaa
open Go.RowKit
set_option linter.unusedVariables false

/-- A pair's name and value, as the first = parts them. -/
def pairL (s : List UInt8) : List UInt8 × List UInt8 := match cutL s 61 with | none => (trimL s, []) | some p => (trimL p.1, trimL p.2)
def hasEq (s : List UInt8) : Bool := (cutL s 61).isSome
def aggP (p : List UInt8 × List UInt8) : Value := .agg #[strV p.1, strV p.2]
theorem trimL_nil : trimL [] = [] := rfl
theorem ltrim_len (l : List UInt8) : (ltrim l).length ≤ l.length := by
  unfold ltrim
  exact (List.dropWhile_sublist _).length_le
theorem rtrim_len (l : List UInt8) : (rtrim l).length ≤ l.length := by
  unfold rtrim
  rw [List.length_reverse]
  have := (List.dropWhile_sublist blankB (l := l.reverse)).length_le
  rw [List.length_reverse] at this
  exact this
theorem trimL_len (l : List UInt8) : (trimL l).length ≤ l.length := by
  unfold trimL
  have := ltrim_len l
  have := rtrim_len (ltrim l)
  omega
theorem pairL_len (s : List UInt8) : (pairL s).1.length ≤ s.length ∧ (pairL s).2.length ≤ s.length := by
  unfold pairL
  split
  · exact ⟨trimL_len s, by simp⟩
  · rename_i p h
    have h1 := cut_some h
    have h2 := congrArg List.length h1.2.2.2.1
    simp at h2
    have := trimL_len p.1
    have := trimL_len p.2
    simp only
    omega

set_option maxHeartbeats 1000000 in
theorem pair_any (s : ByteArray) (w : World) (hs : s.size ≤ maxLen) :
    Calls Try.prog 35 #[.string s] w fun e w' => e = .returned (.tuple #[aggP (pairL s.toList), .bool (hasEq s.toList)]) ∧ Below w.heap.size w w' := by
  rcases h : cutL s.toList 61 with _ | ⟨a, b⟩
  · have hH := Lib.hid h
    have hp := Lib.hid (show pairL s.toList = (trimL s.toList, []) by unfold pairL; rw [h])
    have hq := Lib.hid (show hasEq s.toList = false by unfold hasEq; rw [h]; rfl)
    clear h
    go_enter Try.func35, Try.ntmps35
    go_wp2_with fail
    refine (cut_any_none s 61 _ hs hH.out).mono ?_
    rintro e w' ⟨rfl, rfl⟩
    go_wp2_with fail
    refine (trim_any s _ hs).mono ?_
    rintro e w' ⟨rfl, rfl⟩
    go_wp2_with fail
    refine (trim_any _ _ (by rw [S_size]; decide)).mono ?_
    rintro e w' ⟨rfl, rfl⟩
    rw [S_toList, trimL_nil]
    go_wp2_with fail
    refine bodyPost_ret (v := .tuple #[.agg #[.string (S (trimL s.toList)), .string (S [])], .bool false]) (by simp [results, Try.results35, go_sem]) rfl ?_
    exact ⟨by rw [hp.out, hq.out]; rfl, (Below.refl _ _).alloc (Nat.le_refl _) _⟩
  · have hH := Lib.hid h
    have hp := Lib.hid (show pairL s.toList = (trimL a, trimL b) by unfold pairL; rw [h])
    have hq := Lib.hid (show hasEq s.toList = true by unfold hasEq; rw [h]; rfl)
    have hS := Lib.hid (cut_some h)
    have hszs := Lib.hid (size_toList s)
    have hl := Lib.hid (congrArg List.length (cut_some h).2.2.2.1)
    have ha : a.length ≤ maxLen := by
      have := hl.out; rw [← hszs.out] at this; simp at this; omega
    have hb : b.length ≤ maxLen := by
      have := hl.out; rw [← hszs.out] at this; simp at this; omega
    clear h
    go_enter Try.func35, Try.ntmps35
    go_wp2_with fail
    refine (cut_any_some s 61 _ hs a b hH.out).mono ?_
    rintro e w1 ⟨rfl, hb1⟩
    obtain ⟨hc1, hf1⟩ := bel_cell hb1
    go_wp2_with fail
    refine (trim_any _ _ (by rw [S_size]; exact ha)).mono ?_
    rintro e w' ⟨rfl, rfl⟩
    rw [S_toList]
    go_wp2_with fail
    refine (trim_any _ _ (by rw [S_size]; exact hb)).mono ?_
    rintro e w' ⟨rfl, rfl⟩
    rw [S_toList]
    go_wp2_with fail
    have hB := bel_onto ((Below.refl w.heap.size w).alloc (Nat.le_refl _) _) hb1 (by simp)
    refine bodyPost_ret (v := .tuple #[.agg #[.string (S (trimL a)), .string (S (trimL b))], .bool true]) (by simp [results, Try.results35, go_sem, hc1]) rfl ?_
    exact ⟨by rw [hp.out, hq.out]; rfl, (hB.setCell (Nat.le_refl _) _).setCell (Nat.le_refl _) _⟩

set_option maxHeartbeats 1000000 in
theorem refPair_any (s : ByteArray) (w : World) (hs : s.size ≤ maxLen) :
    Calls Try.prog 38 #[.string s] w fun e w' => e = .returned (aggP (pairL s.toList)) ∧ Below w.heap.size w w' := by
  rcases h : cutL s.toList 61 with _ | ⟨a, b⟩
  · have hp := Lib.hid (show pairL s.toList = (trimL s.toList, []) by unfold pairL; rw [h])
    have hf : findL s.toList 61 = -1 := by unfold findL; rw [h]
    clear h
    go_enter Try.func38, Try.ntmps38
    go_wp2_with fail
    refine (refFind_any s 61 _ hs).mono ?_
    rintro e w' ⟨rfl, rfl⟩
    rw [hf]
    go_wp2_with fail
    refine (refTrim_any s _ hs).mono ?_
    rintro e w' ⟨rfl, rfl⟩
    go_wp2_with fail
    refine bodyPost_ret (v := .agg #[.string (S (trimL s.toList)), .string (S [])]) (by simp [results, Try.results38, go_sem]; rfl) rfl ?_
    exact ⟨by rw [hp.out]; rfl, (Below.refl _ _).alloc (Nat.le_refl _) _⟩
  · have hp := Lib.hid (show pairL s.toList = (trimL a, trimL b) by unfold pairL; rw [h])
    have hf : findL s.toList 61 = a.length := by unfold findL; rw [h]
    have hS := Lib.hid (cut_some h)
    have hszs := Lib.hid (size_toList s)
    have h1 : a.length < s.size := by rw [hszs.out]; exact hS.out.1
    have ha : (s.extract 0 a.length).size ≤ maxLen := by rw [extract_to, S_size, List.length_take, ← hszs.out]; omega
    have hb : (s.extract (a.length + 1) s.size).size ≤ maxLen := by rw [extract_from, S_size, List.length_drop, ← hszs.out]; omega
    have e1 : (s.extract 0 a.length).toList = a := by rw [extract_to, S_toList]; exact hS.out.2.1.symm
    have e2 : (s.extract (a.length + 1) s.size).toList = b := by rw [extract_from, S_toList]; exact hS.out.2.2.1.symm
    have hs' := hs
    unfold maxLen at hs'
    have h1i : (a.length : Int) < s.size := by omega
    have hw1 : IntKind.i64.wrap ((a.length : Int) + 1) = (a.length : Int) + 1 := IntWalk.i64_in _ (by omega)
    have hw2 : (0 : Int) ≤ (a.length : Int) + 1 := by omega
    have hw3 : (a.length : Int) + 1 ≤ s.size := by omega
    have hw4 : ((a.length : Int) + 1).toNat = a.length + 1 := by omega
    clear h
    go_enter Try.func38, Try.ntmps38
    go_wp2_with fail
    refine (refFind_any s 61 _ hs).mono ?_
    rintro e w' ⟨rfl, rfl⟩
    rw [hf]
    go_wp2_with fail
    go_region_with (first
      | (go_at_call 53; refine (refTrim_any _ _ (by assumption)).mono ?_; rintro e w' ⟨rfl, rfl⟩))
    all_goals
      go_wp2_with fail
      refine bodyPost_ret (v := .agg #[.string (S (trimL a)), .string (S (trimL b))]) (by simp [results, Try.results38, go_sem]) rfl ?_
      exact ⟨by rw [hp.out]; rfl, ((Below.refl _ _).alloc (Nat.le_refl _) _).drew⟩

end Go.Proofs.Ytonohkckflgcbaa
