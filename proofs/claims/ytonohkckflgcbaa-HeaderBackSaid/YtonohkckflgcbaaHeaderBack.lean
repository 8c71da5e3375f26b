/-
  The law HeaderBack.
-/
import Derived.Test.YtonohkckflgcbaaHeaderBackP
import Derived.StillTailTactics
import Derived.Deep.RegionHeld3
namespace Go.Proofs.Ytonohkckflgcbaa
open Go.RowKit
set_option linter.unusedVariables false

theorem textA_lenB (a : List UInt8 × List UInt8) : (textA a).length ≤ 3 + a.1.length + a.2.length := by
  unfold textA; split <;> simp <;> omega
theorem textAs_lenB {l : List (List UInt8 × List UInt8)} (h : ∀ p ∈ l, p.1.length ≤ 5000 ∧ p.2.length ≤ 5000) : (l.flatMap textA).length ≤ l.length * 10003 := by
  induction l with
  | nil => simp
  | cons a r ih =>
    have h1 := h a (by simp)
    have h2 := ih (fun p hp => h p (by simp [hp]))
    have h3 := textA_lenB a
    simp only [List.flatMap_cons, List.length_append, List.length_cons]
    omega
theorem parseP_len (s : List UInt8) : (parseP s).1.length ≤ s.length ∧ (parseP s).2.length ≤ s.length := by
  unfold parseP
  split
  · have h2 := pairL_len ((splitL s 59).headD [])
    have h3 : ((splitL s 59).headD []).length ≤ s.length := by
      cases hsp : splitL s 59 with
      | nil => simp
      | cons a b => exact split_part s 59 a (by rw [hsp]; simp)
    omega
  · simp
theorem textH_lenB {s : List UInt8} (h : s.length ≤ 5000) : (textH (parseP s) (parseL s)).length ≤ 4294967296 := by
  have h1 := parse_lens s
  have h2 := parseP_len s
  have h3 := textAs_lenB (l := parseL s) (fun p hp => by have := h1.2 p hp; omega)
  unfold textH
  simp only [List.length_append, List.length_singleton]
  omega
theorem printOk_all {p : List UInt8 × List UInt8} {l : List (List UInt8 × List UInt8)} (h : printOk p l = true) : parseE (textH p l) = 0 ∧ parseP (textH p l) = p ∧ parseL (textH p l) = l := by
  unfold printOk at h
  simp only [Bool.and_eq_true, decide_eq_true_eq] at h
  exact ⟨h.1.1, h.1.2, h.2⟩

set_option maxHeartbeats 4000000 in
theorem headerBack (s : ByteArray) (w : World) (hs : s.size ≤ maxLen) :
    Calls Try.prog 6 #[.string s] w fun e w' => e = .returned (.bool true) ∧ Below w.heap.size w w' := by
  unfold maxLen at hs
  by_cases h1 : 5000 < s.size
  · have h1i : (5000 : Int) < s.size := by omega
    go_enter Try.func6, Try.ntmps6
    go_wp2_with fail
    refine (awake12 _).mono ?_
    rintro e w7 ⟨rfl, hb7⟩
    go_wp2
    go_ret
    exact ⟨rfl, hb7⟩
  have h1i : decide ((5000 : Int) < s.size) = false := decide_eq_false (by omega)
  have hs4 : s.size ≤ 4294967296 := by omega
  have hlens := parse_lens s.toList
  rw [← size_toList] at hlens
  have hn4 : (parseL s.toList).length ≤ 4294967296 := by omega
  have hBO := Lib.hid (@back_ok s.toList)
  have hTL : (textH (parseP s.toList) (parseL s.toList)).length ≤ 4294967296 := textH_lenB (by rw [← size_toList]; omega)
  clear hlens
  go_enter Try.func6, Try.ntmps6
  go_wp2_with fail
  refine (parse_any _ _ hs4).mono ?_
  rintro e w1 ⟨A1, c1, rfl, hown1, hb1⟩
  generalize parseP s.toList = p at *
  generalize parseL s.toList = l at *
  generalize hee : parseE s.toList = ee at *
  unfold aggP strV
  have hR := (Rd.of_own hown1).alloc (.cells #[.string (S p.1), .string (S p.2)] 24)
  have hP := Blk.new_ w1 24 #[.string (S p.1), .string (S p.2)]
  have hB := bel_alloc hb1 (.cells #[.string (S p.1), .string (S p.2)] 24)
  have hg1 : w.heap.size ≤ w1.heap.size := hb1.size
  have hp0 := hP.cell 0
  have hp1 := hP.cell 1
  simp at hp0 hp1
  clear hown1 hb1
  by_cases hE : ee = 0
  case neg =>
    have hEi : (ee != 0) = true := by rw [bne_iff_ne]; exact hE
    clear hee
    go_wp2
    go_quiet (fail)
    go_wp2_with fail
    refine (awake12 _).mono ?_
    rintro e w7 ⟨rfl, hb7⟩
    go_wp2
    go_ret
    exact ⟨rfl, bel_call (below_drews hB _) hb7⟩
  have hEi : (ee != 0) = false := by rw [bne_eq_false_iff_eq]; exact hE
  replace hBO := Lib.hid (hBO.out hE)
  clear hee hE
  clear hp0 hp1
  go_wp2_with fail
  generalize w1.alloc (.cells #[.string (S p.1), .string (S p.2)] 24) = w2 at *
  generalize w1.heap.size = g at *
  have hp0 := hP.cell 0
  have hp1 := hP.cell 1
  simp at hp0 hp1
  have hp10 := Lib.hid (@printOk_all p l)
  have hPY := Lib.hid (@printT_yes p l)
  by_cases hL : 4096 < (textH p l).length
  · have hLi : decide ((4096 : Int) < (textH p l).length) = true := decide_eq_true (by omega)
    clear hBO
    go_region_with (first
      | (go_at_call 15; refine (back_any _ _ _ _ _ (by exact hR) hn4).mono ?_; rintro e w4 ⟨A4, c4, rfl, hown4, hb4⟩; have hp04 := cell_later hb4 hp0; have hp14 := cell_later hb4 hp1)
      | (go_at_call 21; refine (refText12_any p _ _ _ l _ (by exact Rd.of_own hown4) hTL).mono ?_; rintro e w5 ⟨rfl, hb5⟩))
    all_goals
      have hB4 := bel_call hB.drew hb4
      have hB5 := bel_call hB4 hb5
      clear hown4 hb4 hb5 hB4
      go_wp2_with fail
      refine (awake12 _).mono ?_
      rintro e w7 ⟨rfl, hb7⟩
      go_wp2
      go_ret
      exact ⟨rfl, bel_call hB5 hb7⟩
  · have hLi : decide ((4096 : Int) < (textH p l).length) = false := decide_eq_false (by omega)
    replace hBO := Lib.hid (hBO.out (by omega))
    have hO := printOk_all hBO.out
    replace hPY := Lib.hid (hPY.out hBO.out)
    have hO1 := Lib.hid hO.1
    have hO2 := Lib.hid hO.2.1
    have hO3 := Lib.hid hO.2.2
    clear hO hp10
    go_region_with (first
      | (go_at_call 15; refine (back_any _ _ _ _ _ (by exact hR) hn4).mono ?_; rintro e w4 ⟨A4, c4, rfl, hown4, hb4⟩; have hp04 := cell_later hb4 hp0; have hp14 := cell_later hb4 hp1)
      | (go_at_call 21; refine (refText12_any p _ _ _ l _ (by exact Rd.of_own hown4) hTL).mono ?_; rintro e w5 ⟨rfl, hb5⟩))
    all_goals
      have hB4 := bel_call hB.drew hb4
      have hB5 := bel_call hB4 hb5
      have hP5 := (Blk.below (w := w2.drew) hP hb4).below hb5
      have hR5 := (Rd.below (w := w2.drew) hR hb4).below hb5
      clear hown4 hb4 hb5 hB4 hp04 hp14 hp0 hp1 hP hR hB
      have hp0 := hP5.cell 0
      have hp1 := hP5.cell 1
      simp at hp0 hp1
      go_wp2_with fail
      refine (print_any p _ _ _ l _ hR5 hTL).mono ?_
      rintro e w6 ⟨rfl, hb6⟩
      rw [hPY.out]
      have hP6 := hP5.below hb6
      have hR6 := hR5.below hb6
      have hB6 := bel_call hB5 hb6
      clear hb6 hP5 hR5 hB5 hp0 hp1
      go_wp2_with fail
      refine (parse_any _ _ (by rw [S_size]; exact hTL)).mono ?_
      rintro e w7 ⟨A7, c7, rfl, hown, hb7⟩
      rw [S_toList] at hown ⊢
      rw [hO3.out] at hown ⊢
      rw [hO2.out, hO1.out]
      unfold aggP strV
      have hR7 := (Rd.of_own hown).alloc (.cells #[.string (S p.1), .string (S p.2)] 24)
      have hRl := (hR6.below hb7).alloc (.cells #[.string (S p.1), .string (S p.2)] 24)
      have hP7 := (hP6.below hb7).alloc (.cells #[.string (S p.1), .string (S p.2)] 24)
      have hB7 := bel_alloc (bel_call hB6 hb7) (.cells #[.string (S p.1), .string (S p.2)] 24)
      have hp0 := hP7.cell 0
      have hp1 := hP7.cell 1
      simp at hp0 hp1
      clear hown hR6 hP6 hB6 hb7
      go_wp2_with fail
      refine (back_any _ _ _ _ _ hR7 hn4).mono ?_
      rintro e w8 ⟨A8, c8, rfl, hown8, hb8⟩
      have hRl8 := hRl.below hb8
      have hB8 := bel_call hB7 hb8
      have hS8 := Rd.of_own hown8
      clear hown8 hb8 hR7 hRl hB7
      go_wp2_with fail
      refine (back_any _ _ _ _ _ hRl8 hn4).mono ?_
      rintro e w9 ⟨A9, c9, rfl, hown9, hb9⟩
      have hS9 := hS8.below hb9
      have hT9 := Rd.of_own hown9
      have hB9 := bel_call hB8 hb9
      clear hown9 hb9 hRl8 hS8 hB8
      go_wp2_with fail
      refine (same12_any _ _ _ _ _ _ _ _ _ hS9 hT9).mono ?_
      rintro e w10 ⟨rfl, hb10⟩
      rw [decide_eq_true (rfl : l = l)]
      have hB10 := bel_call hB9 hb10
      clear hb10 hB9
      go_wp2_with fail
      refine (awake12 _).mono ?_
      rintro e w11 ⟨rfl, hb11⟩
      go_wp2
      go_ret
      exact ⟨rfl, bel_call hB10 hb11⟩
end Go.Proofs.Ytonohkckflgcbaa
