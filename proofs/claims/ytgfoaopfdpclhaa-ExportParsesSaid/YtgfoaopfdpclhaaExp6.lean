/-
  The walk: items aged, and a line's item, the document's. (Under way.)
-/
import Derived.Test.YtgfoaopfdpclhaaExp5
namespace Go.Proofs.Ytgfoaopfdpclhaa
open Go.RowKit
set_option linter.unusedVariables false

def refParseV (s : List UInt8) (now : Int) : Value := .tuple #[vI (parseI s now), .bool (parseO s now).isSome]
theorem parse_off {s : List UInt8} {now : Int} (h : (parseO s now).isSome = false) : refParseV s now = .tuple #[vI itZ, .bool false] := by
  unfold refParseV; rw [(parse_none h).1, h]
set_option maxRecDepth 20000 in
set_option maxHeartbeats 4000000 in
theorem refParse_short (s : List UInt8) (now : Int) (w : World) (hs : s.length ≤ 100000) (h7 : (splitL s 9).length ≠ 7 ∨ passedB s = true) :
    Calls Try.prog 13 #[.string (S s), .int .i64 now] w fun e w' => e = .returned (refParseV s now) ∧ Below w.heap.size w w' := by
  have hz : (S s).size ≤ 4294967296 := by simp; omega
  have hoff : Hid (refParseV s now = .tuple #[vI itZ, .bool false]) := by
    refine parse_off ?_
    unfold parseO
    rcases h7 with h | h
    · rw [decide_eq_false h]; rfl
    · rw [h]; simp
  have hB := bel_alloc (Below.refl w.heap.size w) (.cells (cI itZ).toArray 27)
  have hth : (w.alloc (.cells (cI itZ).toArray 27)).there w.heap.size 0 11 := by
    rw [there_alloc_new w _ _ _ _ _ rfl (by simp)]; trivial
  go_enter Try.func13, Try.ntmps13
  go_upto_region 1 with (fail)
  show Code.wp _ _ _ _ (w.alloc (.cells (cI itZ).toArray 27))
  have hgw : (w.alloc (.cells (cI itZ).toArray 27)).heap.size = w.heap.size + 1 := by simp
  generalize w.alloc (.cells (cI itZ).toArray 27) = w0 at *
  go_wp2_with fail
  refine (refSplit_any (S s) 9 _ hz).mono ?_
  rintro e w1 ⟨A, cp, rfl, hO, hb1⟩
  rw [S_toList]
  clear hO
  replace hB := bel_call hB hb1
  replace hth := it_there5 hth hb1 (by omega)
  by_cases hl : (splitL s 9).length = 7
  · have hP : passedB s = true := by rcases h7 with h | h; exact absurd hl h; exact h
    have hl7 : (((splitL s 9).length : Int) != 7) = false := by rw [hl]; rfl
    clear hl h7
    go_wp2_with fail
    refine (refPassed_any s _ (by omega)).mono ?_
    rintro e w2 ⟨rfl, rfl⟩
    rw [hP]
    clear hP
    go_upto_region 3 with (fail)
    repeat go_step
    refine ret_item2 (x := noneI k0) Try.results13 rfl rfl (itAt_setCells _ hth) ⟨?_, below_setCells _ _ _ hB (Nat.le_refl _)⟩
    rw [hoff.out]
    rfl
  · have hl7 : (((splitL s 9).length : Int) != 7) = true := by simp; omega
    clear hl h7
    go_upto_region 3 with (fail)
    repeat go_step
    refine ret_item2 (x := noneI k0) Try.results13 rfl rfl (itAt_setCells _ hth) ⟨?_, below_setCells _ _ _ hB (Nat.le_refl _)⟩
    rw [hoff.out]
    rfl
end Go.Proofs.Ytgfoaopfdpclhaa
