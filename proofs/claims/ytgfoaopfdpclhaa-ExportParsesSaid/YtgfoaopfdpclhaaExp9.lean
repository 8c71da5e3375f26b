/-
  The walk: a line's item, the document's, the long way.
-/
import Derived.Test.YtgfoaopfdpclhaaExp6
import Derived.Test.YtgfoaopfdpclhaaIns
import Derived.Deep.DeepCutAuto
namespace Go.Proofs.Ytgfoaopfdpclhaa
open Go.RowKit
set_option linter.unusedVariables false

/-- An item's cells. -/
def iC (x : It) : Array Value := #[.string (S x.k.n), .string (S x.k.d), .string (S x.k.p), .string (S x.c.v), .bool x.c.ho, .bool x.c.se, .bool x.c.ht, .bool x.c.pe, .int .i64 x.c.ex, .int .i64 x.c.cr, .int .i64 x.c.ac]
theorem ic_cells {w : World} {g : Nat} {t : TypeId} {x : It} (h : Blk w g t (iC x)) :
    w.cell? ⟨g, 0, none⟩ = some (.string (S x.k.n)) ∧ w.cell? ⟨g, 1, none⟩ = some (.string (S x.k.d)) ∧ w.cell? ⟨g, 2, none⟩ = some (.string (S x.k.p)) ∧ w.cell? ⟨g, 3, none⟩ = some (.string (S x.c.v)) ∧ w.cell? ⟨g, 4, none⟩ = some (.bool x.c.ho) ∧ w.cell? ⟨g, 5, none⟩ = some (.bool x.c.se) ∧
    w.cell? ⟨g, 6, none⟩ = some (.bool x.c.ht) ∧ w.cell? ⟨g, 7, none⟩ = some (.bool x.c.pe) ∧ w.cell? ⟨g, 8, none⟩ = some (.int .i64 x.c.ex) ∧ w.cell? ⟨g, 9, none⟩ = some (.int .i64 x.c.cr) ∧ w.cell? ⟨g, 10, none⟩ = some (.int .i64 x.c.ac) ∧ (∀ i, w.frozen? ⟨g, i, none⟩ = false) :=
  ⟨h.cell 0, h.cell 1, h.cell 2, h.cell 3, h.cell 4, h.cell 5, h.cell 6, h.cell 7, h.cell 8, h.cell 9, h.cell 10, h.free⟩
@[go_sem] theorem build_K3S (w : World) (l m n : List UInt8) : (mkK #[(0, .string (S l)), (1, .string (S m)), (2, .string (S n))]).run Try.prog w = .ok (vK ⟨l, m, n⟩) w := build_K3 w l m n
theorem ext_from (l : List UInt8) (k : Nat) : (S l).extract k l.length = S (l.drop k) := by
  have := extract_from (S l) k
  rw [S_size, S_toList] at this
  exact this
theorem rb_sets {w : World} {g : Nat} : ∀ (l : List Value) (i : Nat) {w' : World}, w.grownBy w' (some g) → w.grownBy (w'.setCells g i l) (some g)
  | [], _, _, h => h
  | v :: l, i, _, h => rb_sets l (i + 1) (rb_set h i v)
theorem ic_it {w : World} {g : Nat} {t : TypeId} {x : It} (h : Blk w g t (iC x)) : itAt w g 0 = some x := itAt_of (fun j v hv => by
  rw [Nat.zero_add, h.cell j]
  match j, hv with
  | 0, hv => exact hv
  | 1, hv => exact hv
  | 2, hv => exact hv
  | 3, hv => exact hv
  | 4, hv => exact hv
  | 5, hv => exact hv
  | 6, hv => exact hv
  | 7, hv => exact hv
  | 8, hv => exact hv
  | 9, hv => exact hv
  | 10, hv => exact hv
  | j + 11, hv => simp [cI, cK, cCk] at hv)
theorem ic_there {w : World} {g : Nat} {t : TypeId} {x : It} (h : Blk w g t (iC x)) : w.there g 0 3 := fun j hj => by
  rw [Nat.zero_add]
  refine ⟨?_, h.free j⟩
  rw [h.cell j]
  match j, hj with
  | 0, _ => rfl
  | 1, _ => rfl
  | 2, _ => rfl
  | j + 3, hj => omega
/-- What a line's item must meet to be told. -/
theorem rparse_fin {s : List UInt8} {now : Int} {x : It} {a0 a1 a2 a3 a4 a5 a6 : List UInt8} (h7 : splitL s 9 = [a0, a1, a2, a3, a4, a5, a6]) (hP : passedB s = false) (hx : x = parseX (splitL s 9) (clampT now)) :
    (lineO x == some s) = (parseO s now).isSome ∧ ((parseO s now).isSome = true → parseO s now = some x) := by
  by_cases h : lineO x = some s
  · have e : parseO s now = some x := by
      unfold parseO
      rw [hP, ← hx, h, h7]
      simp
    rw [e, h]
    simp
  · have e : parseO s now = none := by
      unfold parseO
      rw [← hx, if_neg]
      simp only [Bool.and_eq_true, beq_iff_eq]
      rintro ⟨_, _, h'⟩
      exact h h'
    rw [e]
    refine ⟨?_, fun h' => by cases h'⟩
    rw [beq_eq_false_iff_ne.2 h]; rfl
theorem rparse_num {s : List UInt8} {now : Int} {a0 a1 a2 a3 a4 a5 a6 : List UInt8} (h7 : splitL s 9 = [a0, a1, a2, a3, a4, a5, a6]) (h4 : (a4 == [45]) = false) (hn : numOk a4 = false) : (parseO s now).isSome = false := by
  cases e : parseO s now with
  | none => rfl
  | some x =>
    obtain ⟨_, _, e3, e4⟩ := parse_some e
    rw [e4] at e3
    obtain ⟨_, _, f4⟩ := parse_words e3 rfl
    rw [h7] at f4
    have f : a4 = [45] ∨ (numOk a4 = true ∧ textL (numV a4) = a4) := f4
    rcases f with f | f
    · rw [f] at h4; cases h4
    · rw [f.1] at hn; cases hn
set_option maxRecDepth 20000 in
set_option maxHeartbeats 4000000 in
theorem refParse_long (s : List UInt8) (now : Int) (w : World) (hs : s.length ≤ 100000) (hn1 : -9223372036854775808 ≤ now) (hn2 : now ≤ 9223372036854775807) (h7 : (splitL s 9).length = 7) (hP : passedB s = false) :
    Calls Try.prog 13 #[.string (S s), .int .i64 now] w fun e w' => e = .returned (refParseV s now) ∧ Below w.heap.size w w' := by
  have hz : (S s).size ≤ 4294967296 := by simp; omega
  have hB := bel_alloc (Below.refl w.heap.size w) (.cells (cI itZ).toArray 27)
  have hth : (w.alloc (.cells (cI itZ).toArray 27)).there w.heap.size 0 11 := by
    rw [there_alloc_new w _ _ _ _ _ rfl (by simp)]; trivial
  go_enter Try.func13, Try.ntmps13
  go_upto_region 1 with (fail)
  show Code.wp _ _ _ _ (w.alloc (.cells (cI itZ).toArray 27))
  have hgw : (w.alloc (.cells (cI itZ).toArray 27)).heap.size = w.heap.size + 1 := by simp
  generalize w.alloc (.cells (cI itZ).toArray 27) = w0 at *
  go_wp2_with fail
  refine (refSplit_any (S s) 9 _ hz).mono ?_
  rintro e w1 ⟨A, cp, rfl, hO, hb1⟩
  rw [S_toList]
  rw [S_toList] at hO
  have hR := Rd.of_own hO
  clear hO
  replace hB := bel_call hB hb1
  replace hth := it_there5 hth hb1 (by omega)
  have hwl : w.heap.size < w1.heap.size := by have := hb1.size; omega
  clear hb1 hgw
  obtain ⟨a0, a1, a2, a3, a4, a5, a6, hf7⟩ := list7 h7
  have h7' : (((splitL s 9).length : Int) != 7) = false := by rw [h7]; rfl
  rw [hf7] at hR h7'
  rw [hf7]
  clear h7
  have hf7H := Lib.hid hf7
  clear hf7
  obtain ⟨b0, o0, c0, hA, hb0, hs7⟩ := sev_rd hR
  cases hA
  clear hR
  go_wp2_with fail
  refine (refPassed_any s _ (by omega)).mono ?_
  rintro e w2 ⟨rfl, rfl⟩
  rw [hP]
  replace hP := Lib.hid hP
  go_upto_region 5 with (fail)
  have hK := Blk.new_ w1 27 (iC itZ)
  have hG := rb_bel (bel_alloc (Below.refl _ w1) (.cells (iC itZ) 27)) w1.heap.size
  have hs8 := sev_grown hs7 hG (by omega)
  replace hs7 := Lib.hid hs7
  show Code.wp _ _ _ _ (w1.alloc (.cells (iC itZ) 27))
  generalize w1.alloc (.cells (iC itZ) 27) = w2 at *
  have hne : b0 ≠ w1.heap.size := by omega
  have la : ∀ a ∈ [a0, a1, a2, a3, a4, a5, a6], a.length ≤ 100000 := fun a ha => by
    have := split_part s 9 a (by rw [hf7H.out]; exact ha)
    omega
  have la0 := la a0 (by simp)
  have la4 := la a4 (by simp)
  clear la
  obtain ⟨s0, s1, s2, s3, s4, s5, s6⟩ := hs8
  go_wp2_with fail
  refine (begins_any a0 hidT _ (by omega) (by decide)).mono ?_
  rintro e w3 ⟨rfl, rfl⟩
  rw [show Lib.hasPrefix a0 hidT = htX a0 from rfl]
  clear s0 s1 s2 s3 s4 s5 s6
  obtain ⟨x1, hx1⟩ : ∃ x1, x1 = (⟨itZ.k, { itZ.c with ht := htX a0 }⟩ : It) := ⟨_, rfl⟩
  obtain ⟨d1, hd1⟩ : ∃ d1, d1 = dX a0 := ⟨_, rfl⟩
  have ld1 : d1.length ≤ 100000 := by rw [hd1]; unfold dX; split <;> (try rw [List.length_drop]) <;> omega
  have lh : htX a0 = true → 10 ≤ a0.length := fun h => by
    have h' : Lib.hasPrefix a0 hidT = true := h
    rw [pre_take] at h'
    simp only [Bool.and_eq_true, decide_eq_true_eq] at h'
    exact h'.1
  replace lh := Lib.hid lh
  replace hx1 := Lib.hid hx1
  replace hd1 := Lib.hid hd1
  go_upto_if 28 with (fail)
  go_cut [8] (fun v wx => v = .string (S d1) ∧ Blk wx w1.heap.size 27 (iC x1) ∧ w1.grownBy wx (some w1.heap.size))
  case first =>
    obtain ⟨c0, c1, c2, c3, c4, c5, c6, c7, c8, c9, c10, cf⟩ := ic_cells hK
    have hgl := hK.lt
    have hKH := Lib.hid hK
    have hGH := Lib.hid hG
    clear hK hG
    cases eH : htX a0 with
    | false =>
      go_wp2
      go_meet
      refine ⟨?_, ?_, hGH.out⟩
      · rw [hd1.out]; unfold dX; rw [eH]; rfl
      · rw [hx1.out, eH]; exact hKH.out
    | true =>
      have l10 := lh.out eH
      have l10' : (10 : Int) ≤ a0.length := by omega
      go_wp2
      go_meet
      refine ⟨?_, ?_, rb_set hGH.out _ _⟩
      · rw [hd1.out, ext_from]; unfold dX; rw [eH]; rfl
      · rw [hx1.out, eH]; exact rb_put hKH.out 6 (.bool true)
  case rest =>
  obtain ⟨rfl, hK3, hG3⟩ := hcut
  clear hK hG lh
  generalize wc = w3 at *
  obtain ⟨x2, hx2⟩ : ∃ x2, x2 = (⟨x1.k, { x1.c with ho := true }⟩ : It) := ⟨_, rfl⟩
  have hK4 : Hid (Blk (w3.setCell ⟨w1.heap.size, 4, none⟩ (.bool true)) w1.heap.size 27 (iC x2)) := by rw [hx2]; exact rb_put hK3 4 (.bool true)
  have hG4 := Lib.hid (rb_set hG3 4 (.bool true))
  obtain ⟨c0, c1, c2, c3, c4, c5, c6, c7, c8, c9, c10, cf⟩ := ic_cells hK3
  have hgl := hK3.lt
  clear hK3 hG3
  replace hx2 := Lib.hid hx2
  go_upto_region 10 with (fail)
  clear c0 c1 c2 c3 c4 c5 c6 c7 c8 c9 c10 cf hgl
  show Code.wp _ _ _ _ (w3.setCell ⟨w1.heap.size, 4, none⟩ (.bool true))
  generalize w3.setCell ⟨w1.heap.size, 4, none⟩ (.bool true) = w4 at *
  replace hK4 := hK4.out
  replace hG4 := hG4.out
  go_wp2_with fail
  refine (begins_any d1 [46] _ (by omega) (by decide)).mono ?_
  rintro e w5 ⟨rfl, rfl⟩
  rw [show Lib.hasPrefix d1 [46] = wideX a0 by rw [hd1.out]; rfl]
  obtain ⟨x3, hx3⟩ : ∃ x3, x3 = (⟨x2.k, { x2.c with ho := !wideX a0 }⟩ : It) := ⟨_, rfl⟩
  obtain ⟨d2, hd2⟩ : ∃ d2, d2 = domX a0 := ⟨_, rfl⟩
  have lh : wideX a0 = true → 1 ≤ d1.length := fun h => by
    have h' : Lib.hasPrefix d1 [46] = true := by rw [hd1.out]; exact h
    rw [pre_take] at h'
    simp only [Bool.and_eq_true, decide_eq_true_eq] at h'
    exact h'.1
  replace lh := Lib.hid lh
  replace hx3 := Lib.hid hx3
  replace hd2 := Lib.hid hd2
  go_upto_if 36 with (fail)
  go_cut [8] (fun v wx => v = .string (S d2) ∧ Blk wx w1.heap.size 27 (iC x3) ∧ w1.grownBy wx (some w1.heap.size))
  case first =>
    obtain ⟨c0, c1, c2, c3, c4, c5, c6, c7, c8, c9, c10, cf⟩ := ic_cells hK4
    have hgl := hK4.lt
    have hKH := Lib.hid hK4
    have hGH := Lib.hid hG4
    clear hK4 hG4
    cases eH : wideX a0 with
    | false =>
      go_wp2
      go_meet
      refine ⟨?_, ?_, hGH.out⟩
      · rw [hd2.out, hd1.out]; unfold domX; rw [eH]; rfl
      · rw [hx3.out, eH]
        have e : (⟨x2.k, { x2.c with ho := !false }⟩ : It) = x2 := by rw [hx2.out]; rfl
        rw [e]; exact hKH.out
    | true =>
      have l10 := lh.out eH
      have l10' : (1 : Int) ≤ d1.length := by omega
      go_wp2
      go_meet
      refine ⟨?_, ?_, rb_set hGH.out _ _⟩
      · rw [ext_from, hd2.out, hd1.out]; unfold domX; rw [eH]; rfl
      · rw [hx3.out, eH]; exact rb_put hKH.out 4 (.bool false)
  case rest =>
  obtain ⟨rfl, hK5, hG5⟩ := hcut
  clear hK4 hG4 lh
  generalize wc = w5 at *
  go_upto_region 13 with (fail)
  obtain ⟨x4, hx4⟩ : ∃ x4, x4 = (⟨⟨a5, d2, a2⟩, x3.c⟩ : It) := ⟨_, rfl⟩
  replace hx4 := Lib.hid hx4
  go_cut [] (fun wx => Blk wx w1.heap.size 27 (iC x4) ∧ w1.grownBy wx (some w1.heap.size))
  case first =>
    obtain ⟨s0, s1, s2, s3, s4, s5, s6⟩ := sev_grown hs7.out hG5 hne
    obtain ⟨c0, c1, c2, c3, c4, c5, c6, c7, c8, c9, c10, cf⟩ := ic_cells hK5
    have hgl := hK5.lt
    have ht3 := ic_there hK5
    have hKH := Lib.hid hK5
    have hGH := Lib.hid hG5
    clear hK5 hG5
    go_region
    all_goals go_wp2
    all_goals go_meet
    all_goals refine ⟨?_, g_trans (rb_sets _ 0 hGH.out) (rb_bel (Below.refl _ _).drew _)⟩
    all_goals rw [hx4.out]
    all_goals exact Blk.below (blk_laid w1.heap.size 27 (cK ⟨a5, d2, a2⟩) 0 (iC x3) _ hKH.out) (Below.refl _ _).drew
  case rest =>
  obtain ⟨hK6, hG6⟩ := hcut
  clear hK5 hG5
  generalize wc = w6 at *
  obtain ⟨x5, hx5⟩ : ∃ x5, x5 = (⟨x4.k, { x4.c with v := a6, se := a3 == truthL true, ex := 1099511627776 }⟩ : It) := ⟨_, rfl⟩
  have hK7 : Hid (Blk (((w6.setCell ⟨w1.heap.size, 3, none⟩ (.string (S a6))).setCell ⟨w1.heap.size, 5, none⟩ (.bool (a3 == truthL true))).setCell ⟨w1.heap.size, 8, none⟩ (.int .i64 1099511627776)) w1.heap.size 27 (iC x5)) := by rw [hx5]; exact rb_put (rb_put (rb_put hK6 3 _) 5 _) 8 _
  have hG7 := Lib.hid (rb_set (rb_set (rb_set hG6 3 (.string (S a6))) 5 (.bool (a3 == truthL true))) 8 (.int .i64 1099511627776))
  obtain ⟨s0, s1, s2, s3, s4, s5, s6⟩ := sev_grown hs7.out hG6 hne
  obtain ⟨c0, c1, c2, c3, c4, c5, c6, c7, c8, c9, c10, cf⟩ := ic_cells hK6
  have hgl := hK6.lt
  clear hK6 hG6
  replace hx5 := Lib.hid hx5
  go_upto_region 17 with (fail)
  clear c0 c1 c2 c3 c4 c5 c6 c7 c8 c9 c10 cf hgl s0 s1 s2 s3 s4 s5 s6
  show Code.wp _ _ _ _ (((w6.setCell ⟨w1.heap.size, 3, none⟩ (.string (S a6))).setCell ⟨w1.heap.size, 5, none⟩ (.bool (a3 == truthL true))).setCell ⟨w1.heap.size, 8, none⟩ (.int .i64 1099511627776))
  generalize ((w6.setCell ⟨w1.heap.size, 3, none⟩ (.string (S a6))).setCell ⟨w1.heap.size, 5, none⟩ (.bool (a3 == truthL true))).setCell ⟨w1.heap.size, 8, none⟩ (.int .i64 1099511627776) = w7 at *
  replace hK7 := hK7.out
  replace hG7 := hG7.out
  have hX5 : Hid (x5 = ⟨⟨a5, domX a0, a2⟩, ⟨a6, !wideX a0, a3 == truthL true, htX a0, false, 1099511627776, 0, 0⟩⟩) := by
    show _ = _
    rw [hx5.out, hx4.out, hx3.out, hx2.out, hx1.out, hd2.out]
    rfl
  clear hx5 hx4 hx3 hx2 hx1 hd2 hd1
  obtain ⟨n1, n2⟩ := numV_bd a4
  obtain ⟨num, hnum⟩ : ∃ n, n = numV a4 := ⟨_, rfl⟩
  obtain ⟨nok, hnok⟩ : ∃ q, q = numOk a4 := ⟨_, rfl⟩
  rw [← hnum] at n1 n2
  have hoff : Hid (a4 ≠ [45] → nok = false → refParseV s now = .tuple #[vI itZ, .bool false]) := fun h1 h2 => parse_off (rparse_num hf7H.out (by simpa using h1) (by rw [← hnok]; exact h2))
  replace hnum := Lib.hid hnum
  replace hnok := Lib.hid hnok
  have hB7 := Lib.hid (bel_grown hB hG7 (by omega) (by omega))
  have hth7 := Lib.hid (there_grown hth hG7 hwl (by omega))
  replace hB := Lib.hid hB
  replace hth := Lib.hid hth
  obtain ⟨x6, hx6⟩ : ∃ x6, x6 = (⟨x5.k, { x5.c with pe := !(a4 == [45]), ex := if a4 == [45] then 1099511627776 else numV a4 }⟩ : It) := ⟨_, rfl⟩
  replace hx6 := Lib.hid hx6
  have hm4 : (S a4).size ≤ maxLen := by unfold maxLen; simp; omega
  obtain ⟨s0, s1, s2, s3, s4, s5, s6⟩ := sev_grown hs7.out hG7 hne
  clear s0 s1 s2 s3 s5 s6
  go_upto_if 66 with (fail)
  go_cut [] (fun wx => Blk wx w1.heap.size 27 (iC x6) ∧ w1.grownBy wx (some w1.heap.size))
  case first =>
    obtain ⟨c0, c1, c2, c3, c4, c5, c6, c7, c8, c9, c10, cf⟩ := ic_cells hK7
    have hgl := hK7.lt
    have hKH := Lib.hid hK7
    have hGH := Lib.hid hG7
    clear hK7 hG7
    cases e45 : (a4 == [45]) with
    | true =>
      have e6 : Hid (x6 = x5) := by
        show _ = _
        rw [hx6.out, hX5.out, e45]; rfl
      clear hoff hnum hnok
      go_wp2
      go_meet
      rw [e6.out]
      exact ⟨hKH.out, hGH.out⟩
    | false =>
      have hnum2 := Lib.hid hnum.out.symm
      have hnok2 := Lib.hid hnok.out.symm
      go_wp2_with fail
      refine (refNumber_any (S a4) _ hm4).mono ?_
      rintro e w8 ⟨rfl, rfl⟩
      rw [S_toList, hnum2.out, hnok2.out]
      have h45 : a4 ≠ [45] := fun e => by rw [e] at e45; cases e45
      cases nok with
      | false =>
        have hF := Lib.hid (hoff.out h45 rfl)
        have hth8 := hth7.out
        have hB8 := hB7.out
        clear hoff hnum hnok hnum2 hnok2 h45
        go_upto_region 20 with (fail)
        repeat go_step
        refine ret_item2 (x := noneI k0) Try.results13 rfl rfl (itAt_setCells _ hth8) ⟨?_, below_setCells _ _ _ hB8 (Nat.le_refl _)⟩
        rw [hF.out]
        rfl
      | true =>
        have e6 : Hid (x6 = ⟨x5.k, { x5.c with ex := num, pe := true }⟩) := by
          show _ = _
          rw [hx6.out, e45, hnum2.out]; rfl
        clear hoff hnum hnok hnum2 hnok2 h45
        go_wp2
        go_meet
        rw [e6.out]
        exact ⟨rb_put (rb_put hKH.out 8 (.int .i64 num)) 7 (.bool true), rb_set (rb_set hGH.out 8 _) 7 _⟩
  case rest =>
  obtain ⟨hK8, hG8⟩ := hcut
  clear hK7 hG7 s4 hoff hnok hB7 hth7 n1 n2 hm4
  generalize wc = w8 at *
  obtain ⟨x7, hx7⟩ : ∃ x7, x7 = agedX x6 (clampT now) := ⟨_, rfl⟩
  have hX7 : Hid (x7 = parseX (splitL s 9) (clampT now)) := by
    show _ = _
    rw [hx7, hx6.out, hX5.out, hf7H.out]; rfl
  have hK9 : Hid (Blk ((w8.setCell ⟨w1.heap.size, 9, none⟩ (.int .i64 (clampT now))).setCell ⟨w1.heap.size, 10, none⟩ (.int .i64 (clampT now))) w1.heap.size 27 (iC x7)) := by rw [hx7]; exact rb_put (rb_put hK8 9 (.int .i64 (clampT now))) 10 (.int .i64 (clampT now))
  have hG9 := Lib.hid (rb_set (rb_set hG8 9 (.int .i64 (clampT now))) 10 (.int .i64 (clampT now)))
  clear hx6 hX5 hx7
  obtain ⟨c0, c1, c2, c3, c4, c5, c6, c7, c8, c9, c10, cf⟩ := ic_cells hK8
  have hgl := hK8.lt
  clear hK8 hG8
  go_upto_region 25 with (fail)
  clear c0 c1 c2 c3 c4 c5 c6 c7 c8 c9 c10 cf hgl
  show Code.wp _ _ _ _ ((w8.setCell ⟨w1.heap.size, 9, none⟩ (.int .i64 (clampT now))).setCell ⟨w1.heap.size, 10, none⟩ (.int .i64 (clampT now)))
  generalize (w8.setCell ⟨w1.heap.size, 9, none⟩ (.int .i64 (clampT now))).setCell ⟨w1.heap.size, 10, none⟩ (.int .i64 (clampT now)) = w9 at *
  replace hK9 := hK9.out
  replace hG9 := hG9.out
  have hMd : MdI x7 := by
    rw [hX7.out, hf7H.out]
    exact mdI_parse hf7H.out hs
  have hI9 := ic_it hK9
  go_wp2_with fail
  refine (refLine_any x7 _ hMd).mono ?_
  rintro e w10 ⟨rfl, hb10⟩
  have hI10 := itAt_later hI9 hb10
  have hG10 := g_trans hG9 (rb_bel hb10 w1.heap.size)
  have hth10 := there_grown hth.out hG10 hwl (by omega)
  have hB10 := bel_grown hB.out hG10 (by omega) (by omega)
  have hfin := Lib.hid (rparse_fin hf7H.out hP.out hX7.out)
  clear hK9 hG9 hI9 hG10 hth hB hX7 hb10
  cases hl : lineO x7 with
  | none =>
    have hF := Lib.hid (parse_off (s := s) (now := now) (by rw [← hfin.out.1, hl]; rfl))
    have hV : Hid (refLineV x7 = .tuple #[.string (S []), .bool false]) := by show _ = _; unfold refLineV; rw [(lineS_none hl).1, hl]; rfl
    clear hfin hl
    rw [hV.out]
    go_upto_region 27 with (fail)
    repeat go_step
    refine ret_item2 (x := noneI k0) Try.results13 rfl rfl (itAt_setCells _ hth10) ⟨?_, below_setCells _ _ _ hB10 (Nat.le_refl _)⟩
    rw [hF.out]
    rfl
  | some t =>
    have hV : Hid (refLineV x7 = .tuple #[.string (S t), .bool true]) := by show _ = _; unfold refLineV; rw [(lineS_some hl).1, hl]; rfl
    by_cases ht : t = s
    · subst ht
      have hO : (parseO t now).isSome = true := by rw [← hfin.out.1, hl]; simp
      have hF := Lib.hid (hfin.out.2 hO)
      clear hfin hO hl
      rw [hV.out]
      go_upto_region 28 with (fail)
      repeat go_step
      refine ret_item2 (x := x7) Try.results13 rfl rfl (itAt_setCells _ hth10) ⟨?_, below_setCells _ _ _ hB10 (Nat.le_refl _)⟩
      unfold refParseV parseI
      rw [hF.out]
      rfl
    · have ht1 : (t == s) = false := by simpa using ht
      have ht2 : (t != s) = true := by simpa using ht
      have hF := Lib.hid (parse_off (s := s) (now := now) (by rw [← hfin.out.1, hl]; simp [ht1]))
      clear hfin hl ht
      rw [hV.out]
      go_upto_region 27 with (fail)
      repeat go_step
      refine ret_item2 (x := noneI k0) Try.results13 rfl rfl (itAt_setCells _ hth10) ⟨?_, below_setCells _ _ _ hB10 (Nat.le_refl _)⟩
      rw [hF.out]
      rfl
/-- A line's item, the document's. -/
theorem refParse_any (s : List UInt8) (now : Int) (w : World) (hs : s.length ≤ 100000) (hn1 : -9223372036854775808 ≤ now) (hn2 : now ≤ 9223372036854775807) :
    Calls Try.prog 13 #[.string (S s), .int .i64 now] w fun e w' => e = .returned (refParseV s now) ∧ Below w.heap.size w w' := by
  by_cases h7 : (splitL s 9).length = 7
  · cases hP : passedB s with
    | true => exact refParse_short s now w hs (.inr hP)
    | false => exact refParse_long s now w hs hn1 hn2 h7 hP
  · exact refParse_short s now w hs (.inl h7)
end Go.Proofs.Ytgfoaopfdpclhaa
