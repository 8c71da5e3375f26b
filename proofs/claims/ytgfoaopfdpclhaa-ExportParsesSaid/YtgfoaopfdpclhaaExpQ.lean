/-
  The law ExportParses.
-/
import Derived.Test.YtgfoaopfdpclhaaExp8
import Derived.Test.YtgfoaopfdpclhaaExp9
namespace Go.Proofs.Ytgfoaopfdpclhaa
open Go.RowKit Go.Deep Go.WideShapes
set_option linter.unusedVariables false

theorem mdI_parseO {s : List UInt8} {now : Int} {x : It} (hs : s.length ≤ 100000) (h : parseO s now = some x) : MdI x := by
  obtain ⟨h7, _, _, e⟩ := parse_some h
  obtain ⟨a0, a1, a2, a3, a4, a5, a6, hf⟩ := list7 h7
  rw [e, hf]
  exact mdI_parse hf hs
theorem i64_wfQ {n : Int} (h : (Lit.int .i64 n).wf = true) : -9223372036854775808 ≤ n ∧ n ≤ 9223372036854775807 := by
  simp [Lit.wf, IntKind.min, IntKind.max, IntKind.signed, IntKind.bits] at h
  exact ⟨by omega, by omega⟩
theorem open_str {l : ByteArray} : ∃ s : List UInt8, l = S s := ⟨l.data.toList, rfl⟩
set_option maxRecDepth 100000 in
set_option maxHeartbeats 8000000 in
theorem exportParses0 (s : List UInt8) (now : Int) (w : World) (hn1 : -9223372036854775808 ≤ now) (hn2 : now ≤ 9223372036854775807) :
    Calls Try.prog 4 #[.string (S s), .int .i64 now] w fun e w' => e = .returned (.bool true) ∧ Below w.heap.size w w' := by
  by_cases hs : (4000 : Int) < s.length
  · go_enter Try.func4, Try.ntmps4
    go_wp2_with (go_at_call 8; refine (awake_any _).mono ?_; rintro e w99 ⟨rfl, hb99⟩)
    go_ret
    exact ⟨rfl, hb99⟩
  · have hs1 : (s.length : Int) ≤ 4000 := by omega
    have hs2 : s.length ≤ 100000 := by omega
    have hs3 : s.length ≤ 4294967296 := by omega
    clear hs
    have hq := Lib.hid (mdI_parseO (now := now) (x := parseI s now) hs2)
    go_enter Try.func4, Try.ntmps4
    go_wp2_with fail
    refine (parse_any s now _ hs2 hn1 hn2).mono ?_
    rintro e w1 ⟨rfl, hb1⟩
    have hI1 := itAt_new w1 (parseI s now) 27 w1.heap.size rfl
    have hB1 := bel_alloc hb1 (.cells (cI (parseI s now)).toArray 27)
    clear hb1
    go_wp2_with fail
    refine (refParse_any s now _ hs2 hn1 hn2).mono ?_
    rintro e w2 ⟨rfl, hb2⟩
    have hI2 := itAt_later hI1 hb2
    have hB2 := bel_call hB1 hb2
    have hJ2 := itAt_new w2 (parseI s now) 27 w2.heap.size rfl
    have hI3 := itAt_later hI2 (bel_alloc (Below.refl _ _) (.cells (cI (parseI s now)).toArray 27))
    have hB3 := bel_alloc hB2 (.cells (cI (parseI s now)).toArray 27)
    clear hB1 hI1 hb2 hI2 hB2
    unfold refParseV
    cases ho : parseO s now with
    | none =>
      have e1 := parse_none (s := s) (now := now) (by rw [ho]; rfl)
      rw [e1.1] at hI3 hJ2 hB3 ⊢
      rw [e1.2]
      clear ho e1
      go_wp2_with fail
      refine (passed_any s _ hs3).mono ?_
      rintro e w3 ⟨rfl, rfl⟩
      go_wp2_with fail
      refine (refPassed_any s _ hs3).mono ?_
      rintro e w3 ⟨rfl, rfl⟩
      clear hJ2
      generalize (w2.alloc (.cells (cI itZ).toArray 27)) = W3 at *
      generalize passedB s = P at *
      cases P
      all_goals go_wp2_with (go_at_call 8; refine (awake_any _).mono ?_; rintro e w99 ⟨rfl, hb99⟩)
      all_goals go_ret
      all_goals exact ⟨rfl, bel_call hB3 hb99⟩
    | some x =>
      have e1 := parse_is ho
      have e2 := parse_some ho
      rw [e1.1] at hI3 hJ2 hB3 hq ⊢
      rw [e1.2]
      have hM := hq.out ho
      have hL := Lib.hid (lineS_some e2.2.2.1)
      clear ho e1 e2
      go_wp2_with fail
      refine (passed_any s _ hs3).mono ?_
      rintro e w3 ⟨rfl, rfl⟩
      go_wp2_with fail
      refine (refPassed_any s _ hs3).mono ?_
      rintro e w3 ⟨rfl, rfl⟩
      clear hq
      generalize (w2.alloc (.cells (cI x).toArray 27)) = W3 at *
      generalize passedB s = P at *
      cases P
      all_goals go_wp2_with fail
      all_goals refine (line_any x _ hM).mono ?_
      all_goals rintro e w5 ⟨rfl, hb5⟩
      all_goals rw [hL.out.1, hL.out.2]
      all_goals have hI5 := itAt_later hI3 hb5
      all_goals have hJ5 := itAt_later hJ2 hb5
      all_goals have hB5 := bel_call hB3 hb5
      all_goals clear hI3 hJ2 hB3 hb5
      all_goals go_wp2_with (go_at_call 8; refine (awake_any _).mono ?_; rintro e w99 ⟨rfl, hb99⟩)
      all_goals go_ret
      all_goals exact ⟨rfl, bel_call hB5 hb99⟩
theorem exportParses (s : ByteArray) (now : Int) (w : World) (hs : s.size ≤ maxLen) (hn : (Lit.int .i64 now).wf = true) :
    Calls Try.prog 4 #[.string s, .int .i64 now] w fun e w' => e = .returned (.bool true) ∧ Below w.heap.size w w' := by
  obtain ⟨l, rfl⟩ := open_str (l := s)
  exact exportParses0 l now w (i64_wfQ hn).1 (i64_wfQ hn).2
end Go.Proofs.Ytgfoaopfdpclhaa
