/-
  A token of a date: what it is taken for.
-/
import Derived.Test.YtagiolhciplniaaDoorDate9
namespace Go.Proofs.YtagiolhciplniaaDoor
open Go.RowKit
set_option linter.unusedVariables false

theorem Blk.put {w : World} {g : Nat} {t : TypeId} {cs : Array Value} (h : Blk w g t cs) (i : Nat) (v : Value) : Blk (w.setCell ⟨g, i, none⟩ v) g t (cs.setIfInBounds i v) := heap_setCell_same w g i cs t v h
theorem grown_bel {w w' : World} (h : Below w.heap.size w w') (g : Nat) : w.grownBy w' (some g) := ⟨h.os, h.tape, h.output, h.size, fun k hk _ => h.block k hk⟩
theorem grown_set {w w' : World} {g : Nat} (h : w.grownBy w' (some g)) (i : Nat) (v : Value) : w.grownBy (w'.setCell ⟨g, i, none⟩ v) (some g) :=
  ⟨h.os, h.tape, h.output, by simpa using h.size, fun k hk hne => by
    rw [Below.heap_setCell _ _ _ _ (fun e => hne (by rw [e]))]
    exact h.block k hk hne⟩
/-- What of a date was met. -/
structure Fd where
  t : Int
  d : Int
  m : Int
  y : Int
  r : Bool
def fdC (f : Fd) : Array Value := #[.int .i64 f.t, .int .i64 f.d, .int .i64 f.m, .int .i64 f.y, .bool f.r]
def tokStep (f : Fd) (l : List UInt8) : Fd :=
  if f.t < 0 ∧ (clockT l).isSome = true then { f with t := (clkR l).1, r := (clkR l).2 }
  else if f.d < 0 ∧ (fieldT l 1 2).2.2 = true then { f with d := (fieldT l 1 2).1 }
  else if f.m < 0 ∧ 0 < monthI l then { f with m := monthI l }
  else if f.y < 0 ∧ (fieldT l 2 4).2.2 = true then { f with y := (fieldT l 2 4).1 }
  else f
theorem fd_at {w : World} {g : Nat} {f : Fd} (h : Blk w g 57 (fdC f)) :
    w.cell? ⟨g, 0, none⟩ = some (.int .i64 f.t) ∧ w.cell? ⟨g, 1, none⟩ = some (.int .i64 f.d) ∧ w.cell? ⟨g, 2, none⟩ = some (.int .i64 f.m) ∧ w.cell? ⟨g, 3, none⟩ = some (.int .i64 f.y) ∧ w.cell? ⟨g, 4, none⟩ = some (.bool f.r) ∧
    (∀ i, w.frozen? ⟨g, i, none⟩ = false) :=
  ⟨h.cell 0, h.cell 1, h.cell 2, h.cell 3, h.cell 4, h.free⟩
theorem fd_size {w : World} {g : Nat} {f : Fd} (h : Blk w g 57 (fdC f)) : g < w.heap.size := h.lt

set_option maxRecDepth 4000 in
set_option maxHeartbeats 8000000 in
theorem token_any (t d m y : Int) (r : Bool) (g : Nat) (s : ByteArray) (w : World) (hs : s.size ≤ 4294967296) (hg : 0 < g) (hm : Mon w) (hK : Blk w g 57 (fdC ⟨t, d, m, y, r⟩)) :
    Calls Tryd.prog 35 #[.pointer (some ⟨g, 0, none⟩), .string s] w fun e w' => e = .returned (.tuple #[]) ∧ Blk w' g 57 (fdC (tokStep ⟨t, d, m, y, r⟩ s.toList)) ∧ w.grownBy w' (some g) := by
  have hz : s.size ≤ maxLen := by unfold maxLen; omega
  have hb0 := Below.refl w.heap.size w
  obtain ⟨c0, c1, c2, c3, c4, cf⟩ := fd_at hK
  have hgl := fd_size hK
  go_enter Tryd.func35, Tryd.ntmps35
  by_cases g0 : t < 0
  · have e0 := Lib.hid (eq_true g0)
    go_wp2_with fail
    refine (clock_any s _ hs).mono ?_
    rintro e w1 ⟨rfl, hxw1⟩
    have hb1 := bel_call hb0 hxw1
    obtain ⟨c0, c1, c2, c3, c4, cf⟩ := fd_at (Blk.below hK hb1)
    replace hm : Mon w1 := hm.next hxw1
    clear hxw1 
    cases hq0 : (clockT s.toList).isSome with
    | true =>
      have hT := Lib.hid (show tokStep ⟨t, d, m, y, r⟩ s.toList = ⟨(clkR s.toList).1, d, m, y, (clkR s.toList).2⟩ by simp [tokStep, e0.out, hq0])
      go_wp2
      rw [hT.out]
      first | refine bodyPost_ret (results_none rfl _ _ _) rfl ?_ | refine bodyPost_end (results_none rfl _ _ _) rfl ?_
      refine ⟨rfl, ?_, ?_⟩
      · exact ((Blk.below hK hb1).put 0 (.int .i64 (clkR s.toList).1)).put 4 (.bool (clkR s.toList).2)
      · exact (grown_set (grown_set (grown_bel hb1 g) 0 (.int .i64 (clkR s.toList).1)) 4 (.bool (clkR s.toList).2))
    | false =>
      by_cases g1 : d < 0
      · have e1 := Lib.hid (eq_true g1)
        go_wp2_with fail
        refine (field_any s 1 2 _ hz).mono ?_
        rintro e w2 ⟨rfl, hxw2⟩
        have hb2 := bel_call hb1 hxw2
        obtain ⟨c0, c1, c2, c3, c4, cf⟩ := fd_at (Blk.below hK hb2)
        replace hm : Mon w2 := hm.next hxw2
        clear hxw2 hb1
        cases hq1 : (fieldT s.toList 1 2).2.2 with
        | true =>
          have hT := Lib.hid (show tokStep ⟨t, d, m, y, r⟩ s.toList = ⟨t, (fieldT s.toList 1 2).1, m, y, r⟩ by simp [tokStep, hq0, e1.out, hq1])
          go_wp2
          rw [hT.out]
          first | refine bodyPost_ret (results_none rfl _ _ _) rfl ?_ | refine bodyPost_end (results_none rfl _ _ _) rfl ?_
          refine ⟨rfl, ?_, ?_⟩
          · exact (Blk.below hK hb2).put 1 (.int .i64 (fieldT s.toList 1 2).1)
          · exact (grown_set (grown_bel hb2 g) 1 (.int .i64 (fieldT s.toList 1 2).1))
        | false =>
          by_cases g2 : m < 0
          · have e2 := Lib.hid (eq_true g2)
            go_wp2_with fail
            refine (month_any s _ hs hm).mono ?_
            rintro e w3 ⟨rfl, hxw3⟩
            have hb3 := bel_call hb2 hxw3
            obtain ⟨c0, c1, c2, c3, c4, cf⟩ := fd_at (Blk.below hK hb3)
            replace hm : Mon w3 := hm.next hxw3
            clear hxw3 hb2
            by_cases hq2 : 0 < monthI s.toList
            · have E2 := Lib.hid (eq_true hq2)
              have hT := Lib.hid (show tokStep ⟨t, d, m, y, r⟩ s.toList = ⟨t, d, monthI s.toList, y, r⟩ by simp [tokStep, hq0, hq1, e2.out, E2.out])
              go_wp2
              rw [hT.out]
              first | refine bodyPost_ret (results_none rfl _ _ _) rfl ?_ | refine bodyPost_end (results_none rfl _ _ _) rfl ?_
              refine ⟨rfl, ?_, ?_⟩
              · exact (Blk.below hK hb3).put 2 (.int .i64 (monthI s.toList))
              · exact (grown_set (grown_bel hb3 g) 2 (.int .i64 (monthI s.toList)))
            · have E2 := Lib.hid (eq_false hq2)
              by_cases g3 : y < 0
              · have e3 := Lib.hid (eq_true g3)
                go_wp2_with fail
                refine (field_any s 2 4 _ hz).mono ?_
                rintro e w4 ⟨rfl, hxw4⟩
                have hb4 := bel_call hb3 hxw4
                obtain ⟨c0, c1, c2, c3, c4, cf⟩ := fd_at (Blk.below hK hb4)
                replace hm : Mon w4 := hm.next hxw4
                clear hxw4 hb3
                cases hq3 : (fieldT s.toList 2 4).2.2 with
                | true =>
                  have hT := Lib.hid (show tokStep ⟨t, d, m, y, r⟩ s.toList = ⟨t, d, m, (fieldT s.toList 2 4).1, r⟩ by simp [tokStep, hq0, hq1, E2.out, e3.out, hq3])
                  go_wp2
                  rw [hT.out]
                  first | refine bodyPost_ret (results_none rfl _ _ _) rfl ?_ | refine bodyPost_end (results_none rfl _ _ _) rfl ?_
                  refine ⟨rfl, ?_, ?_⟩
                  · exact (Blk.below hK hb4).put 3 (.int .i64 (fieldT s.toList 2 4).1)
                  · exact (grown_set (grown_bel hb4 g) 3 (.int .i64 (fieldT s.toList 2 4).1))
                | false =>
                  have hT := Lib.hid (show tokStep ⟨t, d, m, y, r⟩ s.toList = ⟨t, d, m, y, r⟩ by simp [tokStep, hq0, hq1, E2.out, hq3])
                  go_wp2
                  rw [hT.out]
                  first | refine bodyPost_ret (results_none rfl _ _ _) rfl ?_ | refine bodyPost_end (results_none rfl _ _ _) rfl ?_
                  refine ⟨rfl, ?_, ?_⟩
                  · exact Blk.below hK hb4
                  · exact (grown_bel hb4 g)
              · have e3 := Lib.hid (eq_false g3)
                have hT := Lib.hid (show tokStep ⟨t, d, m, y, r⟩ s.toList = ⟨t, d, m, y, r⟩ by simp [tokStep, hq0, hq1, E2.out, e3.out])
                go_wp2
                rw [hT.out]
                first | refine bodyPost_ret (results_none rfl _ _ _) rfl ?_ | refine bodyPost_end (results_none rfl _ _ _) rfl ?_
                refine ⟨rfl, ?_, ?_⟩
                · exact Blk.below hK hb3
                · exact (grown_bel hb3 g)
          · have e2 := Lib.hid (eq_false g2)
            by_cases g3 : y < 0
            · have e3 := Lib.hid (eq_true g3)
              go_wp2_with fail
              refine (field_any s 2 4 _ hz).mono ?_
              rintro e w3 ⟨rfl, hxw3⟩
              have hb3 := bel_call hb2 hxw3
              obtain ⟨c0, c1, c2, c3, c4, cf⟩ := fd_at (Blk.below hK hb3)
              replace hm : Mon w3 := hm.next hxw3
              clear hxw3 hb2
              cases hq3 : (fieldT s.toList 2 4).2.2 with
              | true =>
                have hT := Lib.hid (show tokStep ⟨t, d, m, y, r⟩ s.toList = ⟨t, d, m, (fieldT s.toList 2 4).1, r⟩ by simp [tokStep, hq0, hq1, e2.out, e3.out, hq3])
                go_wp2
                rw [hT.out]
                first | refine bodyPost_ret (results_none rfl _ _ _) rfl ?_ | refine bodyPost_end (results_none rfl _ _ _) rfl ?_
                refine ⟨rfl, ?_, ?_⟩
                · exact (Blk.below hK hb3).put 3 (.int .i64 (fieldT s.toList 2 4).1)
                · exact (grown_set (grown_bel hb3 g) 3 (.int .i64 (fieldT s.toList 2 4).1))
              | false =>
                have hT := Lib.hid (show tokStep ⟨t, d, m, y, r⟩ s.toList = ⟨t, d, m, y, r⟩ by simp [tokStep, hq0, hq1, e2.out, hq3])
                go_wp2
                rw [hT.out]
                first | refine bodyPost_ret (results_none rfl _ _ _) rfl ?_ | refine bodyPost_end (results_none rfl _ _ _) rfl ?_
                refine ⟨rfl, ?_, ?_⟩
                · exact Blk.below hK hb3
                · exact (grown_bel hb3 g)
            · have e3 := Lib.hid (eq_false g3)
              have hT := Lib.hid (show tokStep ⟨t, d, m, y, r⟩ s.toList = ⟨t, d, m, y, r⟩ by simp [tokStep, hq0, hq1, e2.out, e3.out])
              go_wp2
              rw [hT.out]
              first | refine bodyPost_ret (results_none rfl _ _ _) rfl ?_ | refine bodyPost_end (results_none rfl _ _ _) rfl ?_
              refine ⟨rfl, ?_, ?_⟩
              · exact Blk.below hK hb2
              · exact (grown_bel hb2 g)
      · have e1 := Lib.hid (eq_false g1)
        by_cases g2 : m < 0
        · have e2 := Lib.hid (eq_true g2)
          go_wp2_with fail
          refine (month_any s _ hs hm).mono ?_
          rintro e w2 ⟨rfl, hxw2⟩
          have hb2 := bel_call hb1 hxw2
          obtain ⟨c0, c1, c2, c3, c4, cf⟩ := fd_at (Blk.below hK hb2)
          replace hm : Mon w2 := hm.next hxw2
          clear hxw2 hb1
          by_cases hq2 : 0 < monthI s.toList
          · have E2 := Lib.hid (eq_true hq2)
            have hT := Lib.hid (show tokStep ⟨t, d, m, y, r⟩ s.toList = ⟨t, d, monthI s.toList, y, r⟩ by simp [tokStep, hq0, e1.out, e2.out, E2.out])
            go_wp2
            rw [hT.out]
            first | refine bodyPost_ret (results_none rfl _ _ _) rfl ?_ | refine bodyPost_end (results_none rfl _ _ _) rfl ?_
            refine ⟨rfl, ?_, ?_⟩
            · exact (Blk.below hK hb2).put 2 (.int .i64 (monthI s.toList))
            · exact (grown_set (grown_bel hb2 g) 2 (.int .i64 (monthI s.toList)))
          · have E2 := Lib.hid (eq_false hq2)
            by_cases g3 : y < 0
            · have e3 := Lib.hid (eq_true g3)
              go_wp2_with fail
              refine (field_any s 2 4 _ hz).mono ?_
              rintro e w3 ⟨rfl, hxw3⟩
              have hb3 := bel_call hb2 hxw3
              obtain ⟨c0, c1, c2, c3, c4, cf⟩ := fd_at (Blk.below hK hb3)
              replace hm : Mon w3 := hm.next hxw3
              clear hxw3 hb2
              cases hq3 : (fieldT s.toList 2 4).2.2 with
              | true =>
                have hT := Lib.hid (show tokStep ⟨t, d, m, y, r⟩ s.toList = ⟨t, d, m, (fieldT s.toList 2 4).1, r⟩ by simp [tokStep, hq0, e1.out, E2.out, e3.out, hq3])
                go_wp2
                rw [hT.out]
                first | refine bodyPost_ret (results_none rfl _ _ _) rfl ?_ | refine bodyPost_end (results_none rfl _ _ _) rfl ?_
                refine ⟨rfl, ?_, ?_⟩
                · exact (Blk.below hK hb3).put 3 (.int .i64 (fieldT s.toList 2 4).1)
                · exact (grown_set (grown_bel hb3 g) 3 (.int .i64 (fieldT s.toList 2 4).1))
              | false =>
                have hT := Lib.hid (show tokStep ⟨t, d, m, y, r⟩ s.toList = ⟨t, d, m, y, r⟩ by simp [tokStep, hq0, e1.out, E2.out, hq3])
                go_wp2
                rw [hT.out]
                first | refine bodyPost_ret (results_none rfl _ _ _) rfl ?_ | refine bodyPost_end (results_none rfl _ _ _) rfl ?_
                refine ⟨rfl, ?_, ?_⟩
                · exact Blk.below hK hb3
                · exact (grown_bel hb3 g)
            · have e3 := Lib.hid (eq_false g3)
              have hT := Lib.hid (show tokStep ⟨t, d, m, y, r⟩ s.toList = ⟨t, d, m, y, r⟩ by simp [tokStep, hq0, e1.out, E2.out, e3.out])
              go_wp2
              rw [hT.out]
              first | refine bodyPost_ret (results_none rfl _ _ _) rfl ?_ | refine bodyPost_end (results_none rfl _ _ _) rfl ?_
              refine ⟨rfl, ?_, ?_⟩
              · exact Blk.below hK hb2
              · exact (grown_bel hb2 g)
        · have e2 := Lib.hid (eq_false g2)
          by_cases g3 : y < 0
          · have e3 := Lib.hid (eq_true g3)
            go_wp2_with fail
            refine (field_any s 2 4 _ hz).mono ?_
            rintro e w2 ⟨rfl, hxw2⟩
            have hb2 := bel_call hb1 hxw2
            obtain ⟨c0, c1, c2, c3, c4, cf⟩ := fd_at (Blk.below hK hb2)
            replace hm : Mon w2 := hm.next hxw2
            clear hxw2 hb1
            cases hq3 : (fieldT s.toList 2 4).2.2 with
            | true =>
              have hT := Lib.hid (show tokStep ⟨t, d, m, y, r⟩ s.toList = ⟨t, d, m, (fieldT s.toList 2 4).1, r⟩ by simp [tokStep, hq0, e1.out, e2.out, e3.out, hq3])
              go_wp2
              rw [hT.out]
              first | refine bodyPost_ret (results_none rfl _ _ _) rfl ?_ | refine bodyPost_end (results_none rfl _ _ _) rfl ?_
              refine ⟨rfl, ?_, ?_⟩
              · exact (Blk.below hK hb2).put 3 (.int .i64 (fieldT s.toList 2 4).1)
              · exact (grown_set (grown_bel hb2 g) 3 (.int .i64 (fieldT s.toList 2 4).1))
            | false =>
              have hT := Lib.hid (show tokStep ⟨t, d, m, y, r⟩ s.toList = ⟨t, d, m, y, r⟩ by simp [tokStep, hq0, e1.out, e2.out, hq3])
              go_wp2
              rw [hT.out]
              first | refine bodyPost_ret (results_none rfl _ _ _) rfl ?_ | refine bodyPost_end (results_none rfl _ _ _) rfl ?_
              refine ⟨rfl, ?_, ?_⟩
              · exact Blk.below hK hb2
              · exact (grown_bel hb2 g)
          · have e3 := Lib.hid (eq_false g3)
            have hT := Lib.hid (show tokStep ⟨t, d, m, y, r⟩ s.toList = ⟨t, d, m, y, r⟩ by simp [tokStep, hq0, e1.out, e2.out, e3.out])
            go_wp2
            rw [hT.out]
            first | refine bodyPost_ret (results_none rfl _ _ _) rfl ?_ | refine bodyPost_end (results_none rfl _ _ _) rfl ?_
            refine ⟨rfl, ?_, ?_⟩
            · exact Blk.below hK hb1
            · exact (grown_bel hb1 g)
  · have e0 := Lib.hid (eq_false g0)
    by_cases g1 : d < 0
    · have e1 := Lib.hid (eq_true g1)
      go_wp2_with fail
      refine (field_any s 1 2 _ hz).mono ?_
      rintro e w1 ⟨rfl, hxw1⟩
      have hb1 := bel_call hb0 hxw1
      obtain ⟨c0, c1, c2, c3, c4, cf⟩ := fd_at (Blk.below hK hb1)
      replace hm : Mon w1 := hm.next hxw1
      clear hxw1 
      cases hq1 : (fieldT s.toList 1 2).2.2 with
      | true =>
        have hT := Lib.hid (show tokStep ⟨t, d, m, y, r⟩ s.toList = ⟨t, (fieldT s.toList 1 2).1, m, y, r⟩ by simp [tokStep, e0.out, e1.out, hq1])
        go_wp2
        rw [hT.out]
        first | refine bodyPost_ret (results_none rfl _ _ _) rfl ?_ | refine bodyPost_end (results_none rfl _ _ _) rfl ?_
        refine ⟨rfl, ?_, ?_⟩
        · exact (Blk.below hK hb1).put 1 (.int .i64 (fieldT s.toList 1 2).1)
        · exact (grown_set (grown_bel hb1 g) 1 (.int .i64 (fieldT s.toList 1 2).1))
      | false =>
        by_cases g2 : m < 0
        · have e2 := Lib.hid (eq_true g2)
          go_wp2_with fail
          refine (month_any s _ hs hm).mono ?_
          rintro e w2 ⟨rfl, hxw2⟩
          have hb2 := bel_call hb1 hxw2
          obtain ⟨c0, c1, c2, c3, c4, cf⟩ := fd_at (Blk.below hK hb2)
          replace hm : Mon w2 := hm.next hxw2
          clear hxw2 hb1
          by_cases hq2 : 0 < monthI s.toList
          · have E2 := Lib.hid (eq_true hq2)
            have hT := Lib.hid (show tokStep ⟨t, d, m, y, r⟩ s.toList = ⟨t, d, monthI s.toList, y, r⟩ by simp [tokStep, e0.out, hq1, e2.out, E2.out])
            go_wp2
            rw [hT.out]
            first | refine bodyPost_ret (results_none rfl _ _ _) rfl ?_ | refine bodyPost_end (results_none rfl _ _ _) rfl ?_
            refine ⟨rfl, ?_, ?_⟩
            · exact (Blk.below hK hb2).put 2 (.int .i64 (monthI s.toList))
            · exact (grown_set (grown_bel hb2 g) 2 (.int .i64 (monthI s.toList)))
          · have E2 := Lib.hid (eq_false hq2)
            by_cases g3 : y < 0
            · have e3 := Lib.hid (eq_true g3)
              go_wp2_with fail
              refine (field_any s 2 4 _ hz).mono ?_
              rintro e w3 ⟨rfl, hxw3⟩
              have hb3 := bel_call hb2 hxw3
              obtain ⟨c0, c1, c2, c3, c4, cf⟩ := fd_at (Blk.below hK hb3)
              replace hm : Mon w3 := hm.next hxw3
              clear hxw3 hb2
              cases hq3 : (fieldT s.toList 2 4).2.2 with
              | true =>
                have hT := Lib.hid (show tokStep ⟨t, d, m, y, r⟩ s.toList = ⟨t, d, m, (fieldT s.toList 2 4).1, r⟩ by simp [tokStep, e0.out, hq1, E2.out, e3.out, hq3])
                go_wp2
                rw [hT.out]
                first | refine bodyPost_ret (results_none rfl _ _ _) rfl ?_ | refine bodyPost_end (results_none rfl _ _ _) rfl ?_
                refine ⟨rfl, ?_, ?_⟩
                · exact (Blk.below hK hb3).put 3 (.int .i64 (fieldT s.toList 2 4).1)
                · exact (grown_set (grown_bel hb3 g) 3 (.int .i64 (fieldT s.toList 2 4).1))
              | false =>
                have hT := Lib.hid (show tokStep ⟨t, d, m, y, r⟩ s.toList = ⟨t, d, m, y, r⟩ by simp [tokStep, e0.out, hq1, E2.out, hq3])
                go_wp2
                rw [hT.out]
                first | refine bodyPost_ret (results_none rfl _ _ _) rfl ?_ | refine bodyPost_end (results_none rfl _ _ _) rfl ?_
                refine ⟨rfl, ?_, ?_⟩
                · exact Blk.below hK hb3
                · exact (grown_bel hb3 g)
            · have e3 := Lib.hid (eq_false g3)
              have hT := Lib.hid (show tokStep ⟨t, d, m, y, r⟩ s.toList = ⟨t, d, m, y, r⟩ by simp [tokStep, e0.out, hq1, E2.out, e3.out])
              go_wp2
              rw [hT.out]
              first | refine bodyPost_ret (results_none rfl _ _ _) rfl ?_ | refine bodyPost_end (results_none rfl _ _ _) rfl ?_
              refine ⟨rfl, ?_, ?_⟩
              · exact Blk.below hK hb2
              · exact (grown_bel hb2 g)
        · have e2 := Lib.hid (eq_false g2)
          by_cases g3 : y < 0
          · have e3 := Lib.hid (eq_true g3)
            go_wp2_with fail
            refine (field_any s 2 4 _ hz).mono ?_
            rintro e w2 ⟨rfl, hxw2⟩
            have hb2 := bel_call hb1 hxw2
            obtain ⟨c0, c1, c2, c3, c4, cf⟩ := fd_at (Blk.below hK hb2)
            replace hm : Mon w2 := hm.next hxw2
            clear hxw2 hb1
            cases hq3 : (fieldT s.toList 2 4).2.2 with
            | true =>
              have hT := Lib.hid (show tokStep ⟨t, d, m, y, r⟩ s.toList = ⟨t, d, m, (fieldT s.toList 2 4).1, r⟩ by simp [tokStep, e0.out, hq1, e2.out, e3.out, hq3])
              go_wp2
              rw [hT.out]
              first | refine bodyPost_ret (results_none rfl _ _ _) rfl ?_ | refine bodyPost_end (results_none rfl _ _ _) rfl ?_
              refine ⟨rfl, ?_, ?_⟩
              · exact (Blk.below hK hb2).put 3 (.int .i64 (fieldT s.toList 2 4).1)
              · exact (grown_set (grown_bel hb2 g) 3 (.int .i64 (fieldT s.toList 2 4).1))
            | false =>
              have hT := Lib.hid (show tokStep ⟨t, d, m, y, r⟩ s.toList = ⟨t, d, m, y, r⟩ by simp [tokStep, e0.out, hq1, e2.out, hq3])
              go_wp2
              rw [hT.out]
              first | refine bodyPost_ret (results_none rfl _ _ _) rfl ?_ | refine bodyPost_end (results_none rfl _ _ _) rfl ?_
              refine ⟨rfl, ?_, ?_⟩
              · exact Blk.below hK hb2
              · exact (grown_bel hb2 g)
          · have e3 := Lib.hid (eq_false g3)
            have hT := Lib.hid (show tokStep ⟨t, d, m, y, r⟩ s.toList = ⟨t, d, m, y, r⟩ by simp [tokStep, e0.out, hq1, e2.out, e3.out])
            go_wp2
            rw [hT.out]
            first | refine bodyPost_ret (results_none rfl _ _ _) rfl ?_ | refine bodyPost_end (results_none rfl _ _ _) rfl ?_
            refine ⟨rfl, ?_, ?_⟩
            · exact Blk.below hK hb1
            · exact (grown_bel hb1 g)
    · have e1 := Lib.hid (eq_false g1)
      by_cases g2 : m < 0
      · have e2 := Lib.hid (eq_true g2)
        go_wp2_with fail
        refine (month_any s _ hs hm).mono ?_
        rintro e w1 ⟨rfl, hxw1⟩
        have hb1 := bel_call hb0 hxw1
        obtain ⟨c0, c1, c2, c3, c4, cf⟩ := fd_at (Blk.below hK hb1)
        replace hm : Mon w1 := hm.next hxw1
        clear hxw1 
        by_cases hq2 : 0 < monthI s.toList
        · have E2 := Lib.hid (eq_true hq2)
          have hT := Lib.hid (show tokStep ⟨t, d, m, y, r⟩ s.toList = ⟨t, d, monthI s.toList, y, r⟩ by simp [tokStep, e0.out, e1.out, e2.out, E2.out])
          go_wp2
          rw [hT.out]
          first | refine bodyPost_ret (results_none rfl _ _ _) rfl ?_ | refine bodyPost_end (results_none rfl _ _ _) rfl ?_
          refine ⟨rfl, ?_, ?_⟩
          · exact (Blk.below hK hb1).put 2 (.int .i64 (monthI s.toList))
          · exact (grown_set (grown_bel hb1 g) 2 (.int .i64 (monthI s.toList)))
        · have E2 := Lib.hid (eq_false hq2)
          by_cases g3 : y < 0
          · have e3 := Lib.hid (eq_true g3)
            go_wp2_with fail
            refine (field_any s 2 4 _ hz).mono ?_
            rintro e w2 ⟨rfl, hxw2⟩
            have hb2 := bel_call hb1 hxw2
            obtain ⟨c0, c1, c2, c3, c4, cf⟩ := fd_at (Blk.below hK hb2)
            replace hm : Mon w2 := hm.next hxw2
            clear hxw2 hb1
            cases hq3 : (fieldT s.toList 2 4).2.2 with
            | true =>
              have hT := Lib.hid (show tokStep ⟨t, d, m, y, r⟩ s.toList = ⟨t, d, m, (fieldT s.toList 2 4).1, r⟩ by simp [tokStep, e0.out, e1.out, E2.out, e3.out, hq3])
              go_wp2
              rw [hT.out]
              first | refine bodyPost_ret (results_none rfl _ _ _) rfl ?_ | refine bodyPost_end (results_none rfl _ _ _) rfl ?_
              refine ⟨rfl, ?_, ?_⟩
              · exact (Blk.below hK hb2).put 3 (.int .i64 (fieldT s.toList 2 4).1)
              · exact (grown_set (grown_bel hb2 g) 3 (.int .i64 (fieldT s.toList 2 4).1))
            | false =>
              have hT := Lib.hid (show tokStep ⟨t, d, m, y, r⟩ s.toList = ⟨t, d, m, y, r⟩ by simp [tokStep, e0.out, e1.out, E2.out, hq3])
              go_wp2
              rw [hT.out]
              first | refine bodyPost_ret (results_none rfl _ _ _) rfl ?_ | refine bodyPost_end (results_none rfl _ _ _) rfl ?_
              refine ⟨rfl, ?_, ?_⟩
              · exact Blk.below hK hb2
              · exact (grown_bel hb2 g)
          · have e3 := Lib.hid (eq_false g3)
            have hT := Lib.hid (show tokStep ⟨t, d, m, y, r⟩ s.toList = ⟨t, d, m, y, r⟩ by simp [tokStep, e0.out, e1.out, E2.out, e3.out])
            go_wp2
            rw [hT.out]
            first | refine bodyPost_ret (results_none rfl _ _ _) rfl ?_ | refine bodyPost_end (results_none rfl _ _ _) rfl ?_
            refine ⟨rfl, ?_, ?_⟩
            · exact Blk.below hK hb1
            · exact (grown_bel hb1 g)
      · have e2 := Lib.hid (eq_false g2)
        by_cases g3 : y < 0
        · have e3 := Lib.hid (eq_true g3)
          go_wp2_with fail
          refine (field_any s 2 4 _ hz).mono ?_
          rintro e w1 ⟨rfl, hxw1⟩
          have hb1 := bel_call hb0 hxw1
          obtain ⟨c0, c1, c2, c3, c4, cf⟩ := fd_at (Blk.below hK hb1)
          replace hm : Mon w1 := hm.next hxw1
          clear hxw1 
          cases hq3 : (fieldT s.toList 2 4).2.2 with
          | true =>
            have hT := Lib.hid (show tokStep ⟨t, d, m, y, r⟩ s.toList = ⟨t, d, m, (fieldT s.toList 2 4).1, r⟩ by simp [tokStep, e0.out, e1.out, e2.out, e3.out, hq3])
            go_wp2
            rw [hT.out]
            first | refine bodyPost_ret (results_none rfl _ _ _) rfl ?_ | refine bodyPost_end (results_none rfl _ _ _) rfl ?_
            refine ⟨rfl, ?_, ?_⟩
            · exact (Blk.below hK hb1).put 3 (.int .i64 (fieldT s.toList 2 4).1)
            · exact (grown_set (grown_bel hb1 g) 3 (.int .i64 (fieldT s.toList 2 4).1))
          | false =>
            have hT := Lib.hid (show tokStep ⟨t, d, m, y, r⟩ s.toList = ⟨t, d, m, y, r⟩ by simp [tokStep, e0.out, e1.out, e2.out, hq3])
            go_wp2
            rw [hT.out]
            first | refine bodyPost_ret (results_none rfl _ _ _) rfl ?_ | refine bodyPost_end (results_none rfl _ _ _) rfl ?_
            refine ⟨rfl, ?_, ?_⟩
            · exact Blk.below hK hb1
            · exact (grown_bel hb1 g)
        · have e3 := Lib.hid (eq_false g3)
          have hT := Lib.hid (show tokStep ⟨t, d, m, y, r⟩ s.toList = ⟨t, d, m, y, r⟩ by simp [tokStep, e0.out, e1.out, e2.out, e3.out])
          go_wp2
          rw [hT.out]
          first | refine bodyPost_ret (results_none rfl _ _ _) rfl ?_ | refine bodyPost_end (results_none rfl _ _ _) rfl ?_
          refine ⟨rfl, ?_, ?_⟩
          · exact hK
          · exact (grown_bel hb0 g)
end Go.Proofs.YtagiolhciplniaaDoor
