/-
  The walk: an item's line, the document's.
-/
import Derived.Test.YtgfoaopfdpclhaaExp2
import Derived.BigQuiet
import Derived.Deep.QuietTactic
namespace Go.Proofs.Ytgfoaopfdpclhaa
open Go.RowKit
set_option linter.unusedVariables false

theorem lineT_app (x : It) : lineT x = headL x ++ x.k.d ++ [9] ++ truthL (!x.c.ho) ++ [9] ++ x.k.p ++ [9] ++ truthL x.c.se ++ [9] ++ expL x ++ [9] ++ x.k.n ++ [9] ++ x.c.v := by
  show Lib.join [headL x ++ x.k.d, truthL (!x.c.ho), x.k.p, truthL x.c.se, expL x, x.k.n, x.c.v] [9] = _
  unfold Lib.join
  rw [inter_cons, inter_cons, inter_cons, inter_cons, inter_cons, inter_cons]
  simp [List.intercalate]
def refLineV (x : It) : Value := .tuple #[.string (S (lineS x)), .bool (lineO x).isSome]
/-- The cells that the walk of the document's 'Line' reads. -/
theorem it8 {w : World} {g : Nat} {x : It} (h : itAt w g 0 = some x) : w.cell? ⟨g, 0, none⟩ = some (.string (S x.k.n)) ∧ w.cell? ⟨g, 1, none⟩ = some (.string (S x.k.d)) ∧ w.cell? ⟨g, 2, none⟩ = some (.string (S x.k.p)) ∧ w.cell? ⟨g, 3, none⟩ = some (.string (S x.c.v)) ∧ w.cell? ⟨g, 4, none⟩ = some (.bool x.c.ho) ∧ w.cell? ⟨g, 5, none⟩ = some (.bool x.c.se) ∧ w.cell? ⟨g, 6, none⟩ = some (.bool x.c.ht) ∧ w.cell? ⟨g, 7, none⟩ = some (.bool x.c.pe) ∧ w.cell? ⟨g, 8, none⟩ = some (.int .i64 x.c.ex) := by
  obtain ⟨k1, k2, k3⟩ := ky_cells (kyAt_it h)
  have hc := ckAt_it h
  rw [Nat.zero_add] at hc
  obtain ⟨c1, c2, c3, c4, c5⟩ := ck_cells hc
  obtain ⟨c6, _, _⟩ := ck_cells2 hc
  simp only [Nat.zero_add] at *
  exact ⟨k1, k2, k3, c6, c1, c2, c3, c4, c5⟩
set_option maxRecDepth 20000 in
set_option maxHeartbeats 4000000 in
theorem refLine_any (x : It) (w : World) (hx : MdI x) :
    Calls Try.prog 10 #[vI x] w fun e w' => e = .returned (refLineV x) ∧ Below w.heap.size w w' := by
  have hsh := hx.sh
  obtain ⟨h1, h2, h3, h4⟩ := hx
  have hI := itAt_new w x 27 w.heap.size rfl
  have hB := bel_alloc (Below.refl w.heap.size w) (.cells (cI x).toArray 27)
  have hL := Lib.hid (show lineO x = if rightI x && (cleanB x.k.p && (cleanB x.k.n && cleanB x.c.v)) then some (lineT x) else none from rfl)
  go_enter Try.func10, Try.ntmps10
  go_upto_region 1 with (fail)
  show Code.wp _ _ _ _ (w.alloc (.cells (cI x).toArray 27))
  generalize w.alloc (.cells (cI x).toArray 27) = w0 at *
  obtain ⟨q0, q1, q2, q3, q4, q5, q6, q7, q8⟩ := it8 hI
  cases eA : rightI x with
  | false =>
    have hF : Hid (lineS x = [] ∧ (lineO x).isSome = false) := by show _ ∧ _; unfold lineS; rw [hL.out, eA]; exact ⟨rfl, rfl⟩
    go_wp2_with fail
    refine (refRight_any' x _ hsh).mono ?_
    rintro e w1 ⟨rfl, hb1⟩
    rw [eA]
    clear eA
    go_wp2
    go_ret2
    exact ⟨by unfold refLineV; rw [hF.out.1, hF.out.2]; rfl, bel_call hB hb1⟩
  | true =>
  go_wp2_with fail
  refine (refRight_any' x _ hsh).mono ?_
  rintro e w1 ⟨rfl, hb1⟩
  replace hI := itAt_later hI hb1
  replace hB := bel_call hB hb1
  clear hb1 q0 q1 q2 q3 q4 q5 q6 q7 q8
  obtain ⟨q0, q1, q2, q3, q4, q5, q6, q7, q8⟩ := it8 hI
  rw [eA]
  go_wp2_with fail
  refine (refClean_any x.k.p _ (by omega)).mono ?_
  rintro e w2 ⟨rfl, rfl⟩
  cases eB : cleanB x.k.p with
  | false =>
    have hF : Hid (lineS x = [] ∧ (lineO x).isSome = false) := by show _ ∧ _; unfold lineS; rw [hL.out, eA, eB]; exact ⟨rfl, rfl⟩
    clear eA eB
    go_wp2
    go_ret2
    exact ⟨by unfold refLineV; rw [hF.out.1, hF.out.2]; rfl, hB⟩
  | true =>
  go_wp2_with fail
  refine (refClean_any x.k.n _ (by omega)).mono ?_
  rintro e w2 ⟨rfl, rfl⟩
  cases eC : cleanB x.k.n with
  | false =>
    have hF : Hid (lineS x = [] ∧ (lineO x).isSome = false) := by show _ ∧ _; unfold lineS; rw [hL.out, eA, eB, eC]; exact ⟨rfl, rfl⟩
    clear eA eB eC
    go_wp2
    go_ret2
    exact ⟨by unfold refLineV; rw [hF.out.1, hF.out.2]; rfl, hB⟩
  | true =>
  go_wp2_with fail
  refine (refClean_any x.c.v _ (by omega)).mono ?_
  rintro e w2 ⟨rfl, rfl⟩
  cases eD : cleanB x.c.v with
  | false =>
    have hF : Hid (lineS x = [] ∧ (lineO x).isSome = false) := by show _ ∧ _; unfold lineS; rw [hL.out, eA, eB, eC, eD]; exact ⟨rfl, rfl⟩
    clear eA eB eC eD
    go_wp2
    go_ret2
    exact ⟨by unfold refLineV; rw [hF.out.1, hF.out.2]; rfl, hB⟩
  | true =>
  have hF : Hid (lineS x = lineT x ∧ (lineO x).isSome = true) := by show _ ∧ _; unfold lineS; rw [hL.out, eA, eB, eC, eD]; exact ⟨rfl, rfl⟩
  have htm := right_time eA
  have hex : -9223372036854775808 ≤ x.c.ex ∧ x.c.ex ≤ 9223372036854775807 := by
    unfold timeR inB at htm
    simp only [Bool.and_eq_true, decide_eq_true_eq] at htm
    omega
  clear eA eB eC eD hL htm
  obtain ⟨hex1, hex2⟩ := hex
  obtain ⟨d1, hd1⟩ : ∃ d, d = (if x.c.ho then [] else [46]) ++ x.k.d := ⟨_, rfl⟩
  have hd1l : d1.length ≤ 100001 := by rw [hd1, List.length_append]; split <;> simp <;> omega
  replace hd1 := Lib.hid hd1
  go_upto_if 37 with (fail)
  go_cut [4] (fun v wx => v = .string (S d1) ∧ w1 = wx)
  case first =>
    cases eH : x.c.ho
    all_goals
      rw [eH] at q4
      have hb10 : 1 + x.k.d.length ≤ maxLen := by unfold maxLen; omega
      have hb11 : (1 : Int) + x.k.d.length ≤ 9223372036854775807 := by omega
      go_wp2
      go_meet
      refine ⟨?_, rfl⟩
      rw [hd1.out, eH]
      first
        | (show Value.string (S [46] ++ S x.k.d) = _; rw [S_cat]; rfl)
        | rfl
  case rest =>
  obtain ⟨rfl, rfl⟩ := hcut
  have hF0 : Hid (headL x ++ x.k.d = (if x.c.ht then hidT else []) ++ d1) := by
    show _ = _
    rw [hd1.out]
    show ((if x.c.ht then hidT else []) ++ (if x.c.ho then [] else [46])) ++ x.k.d = _
    rw [List.append_assoc]
  have hhl : (headL x ++ x.k.d).length ≤ 100011 := by rw [hF0.out, List.length_append]; split <;> simp [hidT] <;> omega
  obtain ⟨d2, hd2⟩ : ∃ d, d = headL x ++ x.k.d := ⟨_, rfl⟩
  rw [← hd2] at hhl
  replace hd2 := Lib.hid hd2
  go_upto_if 42 with (fail)
  go_cut [4] (fun v wx => v = .string (S d2) ∧ w1 = wx)
  case first =>
    cases eH : x.c.ht
    all_goals
      rw [eH] at q6
      have hb10 : 10 + d1.length ≤ maxLen := by unfold maxLen; omega
      have hb11 : (10 : Int) + d1.length ≤ 9223372036854775807 := by omega
      go_wp2
      go_meet
      refine ⟨?_, rfl⟩
      rw [hd2.out, hF0.out, eH]
      first
        | (show Value.string (S hidT ++ S d1) = _; rw [S_cat]; rfl)
        | rfl
  case rest =>
  obtain ⟨rfl, rfl⟩ := hcut
  have hel : (expL x).length ≤ 21 := by
    unfold expL
    split
    · exact textL_len46 _ hex1 hex2
    · decide
  go_upto_if 47 with (fail)
  go_cut [5] (fun v wx => v = .string (S (expL x)) ∧ itAt wx w.heap.size 0 = some x ∧ Below w.heap.size w wx)
  case first =>
    cases eP : x.c.pe with
    | false =>
      rw [eP] at q7
      have he := Lib.hid (show expL x = [45] by unfold expL; rw [eP]; rfl)
      clear eP
      go_wp2
      go_meet
      exact ⟨by rw [he.out]; rfl, hI, hB⟩
    | true =>
      rw [eP] at q7
      have he := Lib.hid (show expL x = textL x.c.ex by unfold expL; rw [eP]; rfl)
      clear eP
      go_wp2_with fail
      refine (refText_any x.c.ex _ hex1 hex2).mono ?_
      rintro e w3 ⟨rfl, hb3⟩
      have hI3 := itAt_later hI hb3
      have hB3 := bel_call hB hb3
      clear hI hB hb3 q0 q1 q2 q3 q4 q5 q6 q7 q8
      go_wp2
      go_meet
      exact ⟨by rw [he.out], hI3, hB3⟩
  case rest =>
  obtain ⟨rfl, hI2, hB2⟩ := hcut
  clear hI hB q0 q1 q2 q3 q4 q5 q6 q7 q8
  have hI3 := itAt_later hI2 (bel_alloc (Below.refl _ wc) (.cells #[.int .u8 9] 5))
  have hB3 := bel_alloc hB2 (.cells #[.int .u8 9] 5)
  replace hI3 := Lib.hid hI3
  replace hB3 := Lib.hid hB3
  go_upto_region 12 with (fail)
  show Code.wp _ _ _ _ (wc.alloc (.cells #[.int .u8 9] 5))
  generalize wc.alloc (.cells #[.int .u8 9] 5) = w5 at *
  clear hI2 hB2
  have hI4 := hI3.out
  have hB4 := hB3.out
  clear hI3 hB3
  obtain ⟨q0, q1, q2, q3, q4, q5, q6, q7, q8⟩ := it8 hI4
  have tl1 := truthL_len (!x.c.ho)
  have tl2 := truthL_len x.c.se
  have e1 := lineT_app x
  rw [← hd2.out] at e1
  replace e1 := Lib.hid e1
  generalize expL x = E at *
  clear q6 q7 q8 hd1 hF0 hd2
  obtain ⟨T, hT⟩ : ∃ T : List UInt8, T = [9] := ⟨_, rfl⟩
  rw [← hT]
  rw [← hT] at e1
  have hTl : T.length = 1 := by rw [hT]; rfl
  clear hT
  have z0 : ¬ (9223372036854775807 < d2.length + T.length) := by omega
  have z1 : ¬ (9223372036854775807 < d2.length + T.length + (truthL (!x.c.ho)).length) := by omega
  have z2 : ¬ (9223372036854775807 < d2.length + T.length + (truthL (!x.c.ho)).length + T.length) := by omega
  have z3 : ¬ (9223372036854775807 < d2.length + T.length + (truthL (!x.c.ho)).length + T.length + x.k.p.length) := by omega
  have z4 : ¬ (9223372036854775807 < d2.length + T.length + (truthL (!x.c.ho)).length + T.length + x.k.p.length + T.length) := by omega
  have z5 : ¬ (9223372036854775807 < d2.length + T.length + (truthL (!x.c.ho)).length + T.length + x.k.p.length + T.length + (truthL x.c.se).length) := by omega
  have z6 : ¬ (9223372036854775807 < d2.length + T.length + (truthL (!x.c.ho)).length + T.length + x.k.p.length + T.length + (truthL x.c.se).length + T.length) := by omega
  have z7 : ¬ (9223372036854775807 < d2.length + T.length + (truthL (!x.c.ho)).length + T.length + x.k.p.length + T.length + (truthL x.c.se).length + T.length + E.length) := by omega
  have z8 : ¬ (9223372036854775807 < d2.length + T.length + (truthL (!x.c.ho)).length + T.length + x.k.p.length + T.length + (truthL x.c.se).length + T.length + E.length + T.length) := by omega
  have z9 : ¬ (9223372036854775807 < d2.length + T.length + (truthL (!x.c.ho)).length + T.length + x.k.p.length + T.length + (truthL x.c.se).length + T.length + E.length + T.length + x.k.n.length) := by omega
  have z10 : ¬ (9223372036854775807 < d2.length + T.length + (truthL (!x.c.ho)).length + T.length + x.k.p.length + T.length + (truthL x.c.se).length + T.length + E.length + T.length + x.k.n.length + T.length) := by omega
  have z11 : ¬ (9223372036854775807 < d2.length + T.length + (truthL (!x.c.ho)).length + T.length + x.k.p.length + T.length + (truthL x.c.se).length + T.length + E.length + T.length + x.k.n.length + T.length + x.c.v.length) := by omega
  go_wp2_with fail
  go_big_quiet ((go_at_call 29; refine (refTruth_any _ _).mono ?_; rintro e w6 ⟨rfl, rfl⟩; exact ⟨rfl, _, rfl⟩))
  have hB6 := bel_call hB4 (below_drews (Below.refl _ _) nq)
  have e2 : Hid (lineT x = d2 ++ (T ++ (truthL (!x.c.ho) ++ (T ++ (x.k.p ++ (T ++ (truthL x.c.se ++ (T ++ (E ++ (T ++ (x.k.n ++ (T ++ x.c.v)))))))))))) := by
    show _ = _
    rw [e1.out]
    simp only [List.append_assoc]
  replace hB6 := Lib.hid hB6
  clear e1 hB4 hI4 q0 q1 q2 q3 q4 q5 z0 z1 z2 z3 z4 z5 z6 z7 z8 z9 z10 z11
  rw [← e2.out]
  go_wp2
  go_ret2
  exact ⟨by unfold refLineV; rw [hF.out.1, hF.out.2]; rfl, hB6.out⟩
end Go.Proofs.Ytgfoaopfdpclhaa
