/-
  The reference's parser walked, fourth part: a date parsed.
-/
import Derived.Test.YtagiolhciplniaaDoorDate19
import Derived.Deep.RegionHeld3
namespace Go.Proofs.YtagiolhciplniaaDoor
open Go.RowKit
set_option linter.unusedVariables false

theorem tokStep_ref (f : Fd) (l : List UInt8) : tokStep f l =
    if f.t < 0 ∧ (clockT l).isSome = true then { f with t := (clkR l).1, r := (clkR l).2 }
    else if f.d < 0 ∧ digitsB l 1 2 = true then { f with d := valueI l }
    else if f.m < 0 ∧ 0 < monthI l then { f with m := monthI l }
    else if f.y < 0 ∧ digitsB l 2 4 = true then { f with y := valueI l }
    else f := by
  unfold tokStep
  rw [digits_field, digits_field]
  have e1 : digitsB l 1 2 = true → (fieldT l 1 2).1 = valueI l := fun h => by rw [field_dig h]
  have e2 : digitsB l 2 4 = true → (fieldT l 2 4).1 = valueI l := fun h => by
    obtain ⟨_, _, e, _⟩ := field_eq (l := l) (a := 2) (b := 4) (by rw [digits_field]; exact h)
    exact e
  by_cases h1 : f.t < 0 ∧ (clockT l).isSome = true
  · rw [if_pos h1, if_pos h1]
  · rw [if_neg h1, if_neg h1]
    by_cases h2 : f.d < 0 ∧ digitsB l 1 2 = true
    · rw [if_pos h2, if_pos h2, e1 h2.2]
    · rw [if_neg h2, if_neg h2]
      by_cases h3 : f.m < 0 ∧ 0 < monthI l
      · rw [if_pos h3, if_pos h3]
      · rw [if_neg h3, if_neg h3]
        by_cases h4 : f.y < 0 ∧ digitsB l 2 4 = true
        · rw [if_pos h4, if_pos h4, e2 h4.2]
        · rw [if_neg h4, if_neg h4]
/-- The reference's times and the program's. -/
def TmOk (tm : List Int) (f : Fd) : Prop := (tm = [] ∧ f.t = -1 ∧ f.r = true) ∨ (∃ h m s, tm = [h, m, s] ∧ (0 ≤ h ∧ h ≤ 99) ∧ (0 ≤ m ∧ m ≤ 99) ∧ (0 ≤ s ∧ s ≤ 99) ∧ f.t = h * 3600 + m * 60 + s ∧ f.r = (decide (h < 24) && decide (m < 60) && decide (s < 60)))
theorem tm_some {tk : List UInt8} (h : (timeL tk).isSome = true) (f : Fd) : (clockT tk).isSome = true ∧ TmOk ((timeL tk).getD []) { f with t := (clkR tk).1, r := (clkR tk).2 } := by
  rcases clock_time tk with ⟨e, _⟩ | ⟨a, b, c, e, h1, h2, h3, e2⟩
  · rw [e] at h; cases h
  · obtain ⟨q1, q2⟩ := clkR_some e2
    rw [e, q1]
    exact ⟨q2, .inr ⟨a, b, c, rfl, h1, h2, h3, rfl, rfl⟩⟩
theorem tm_none {tk : List UInt8} (h : (timeL tk).isSome = false) : (clockT tk).isSome = false := by
  rcases clock_time tk with ⟨_, e⟩ | ⟨a, b, c, e, _⟩
  · rw [e]; rfl
  · rw [e] at h; cases h

theorem days_split {y m d : Int} (h : rightB y m d = true) : ∃ D, daysI y m d = D ∧ -10000000 ≤ D ∧ D ≤ 10000000 := ⟨_, rfl, days_bd h⟩
theorem held_call3 {W w w' : World} {g o : Nat} {x y z : Value} (hb : Below w.heap.size w w') (h : w.cell? ⟨g, o, none⟩ = some x ∧ w.cell? ⟨g, o + 1, none⟩ = some y ∧ w.cell? ⟨g, o + 2, none⟩ = some z ∧ g < w.heap.size ∧ Below W.heap.size W w) :
    w'.cell? ⟨g, o, none⟩ = some x ∧ w'.cell? ⟨g, o + 1, none⟩ = some y ∧ w'.cell? ⟨g, o + 2, none⟩ = some z ∧ g < w'.heap.size ∧ Below W.heap.size W w' :=
  ⟨(hb.cell (p := ⟨g, o, none⟩) h.2.2.2.1).trans h.1, (hb.cell (p := ⟨g, o + 1, none⟩) h.2.2.2.1).trans h.2.1, (hb.cell (p := ⟨g, o + 2, none⟩) h.2.2.2.1).trans h.2.2.1, Nat.lt_of_lt_of_le h.2.2.2.1 hb.size, bel_call h.2.2.2.2 hb⟩
theorem held_drew3 {W w : World} {g o : Nat} {x y z : Value} (h : w.cell? ⟨g, o, none⟩ = some x ∧ w.cell? ⟨g, o + 1, none⟩ = some y ∧ w.cell? ⟨g, o + 2, none⟩ = some z ∧ g < w.heap.size ∧ Below W.heap.size W w) :
    w.drew.cell? ⟨g, o, none⟩ = some x ∧ w.drew.cell? ⟨g, o + 1, none⟩ = some y ∧ w.drew.cell? ⟨g, o + 2, none⟩ = some z ∧ g < w.drew.heap.size ∧ Below W.heap.size W w.drew := ⟨h.1, h.2.1, h.2.2.1, h.2.2.2.1, h.2.2.2.2.drew⟩
/-- The relation at the head of the reference's loop. -/
def RpRel (l : List UInt8) (W : World) (A : Option Addr) (cp : Nat) (vt vd vm vy vi : Value) (wr : World) : Prop :=
  ∃ (k : Nat) (t d m y : Int) (r : Bool) (mm : Int) (tm : List Int) (A2 : Option Addr) (c2 : Nat), vi = .int .i64 k ∧ k ≤ (tokensL l).length ∧ vd = .int .i64 d ∧ vm = .int .i64 mm ∧ ((m = -1 ∧ mm = 0) ∨ (m = mm ∧ 1 ≤ mm)) ∧ vy = .int .i64 y ∧
    vt = .slice A2 tm.length c2 ∧ Rd wr 1 (.slice A2 tm.length c2) tm.length (tm.map intV) ∧ TmOk tm ⟨t, d, m, y, r⟩ ∧ FdOk ⟨t, d, m, y, r⟩ ∧ Rd wr 1 (.slice A (tokensL l).length cp) (tokensL l).length ((tokensL l).map strV) ∧ Below W.heap.size W wr ∧
    Hid (fdOf l = ((tokensL l).drop k).foldl tokStep ⟨t, d, m, y, r⟩)

set_option maxRecDepth 4000 in
set_option maxHeartbeats 16000000 in
theorem refParse_any (s : ByteArray) (w : World) (hs : s.size ≤ 4294967296) :
    Calls Tryd.prog 20 #[.string s] w fun e w' => e = .returned (.tuple #[.int .i64 (dateT s.toList).1, .bool (decide ((dateT s.toList).2 = 0))]) ∧ Below w.heap.size w w' := by
  have htl : (tokensL s.toList).length ≤ s.size + 1 := by unfold tokensL; rw [size_toList]; exact tokGo_len _ _
  have htk := Lib.hid (tokens_size s.toList)
  have hlen := Lib.hid (size_toList s)
  go_enter Tryd.func20, Tryd.ntmps20
  go_wp2_with fail
  refine (refTokens_any s _ hs).mono ?_
  rintro e w1 ⟨A, cp, rfl, hown1, hb1⟩
  have hrd1 := (Rd.of_own hown1).alloc (.cells #[] 3)
  have hown2 := World.ownsRow_lit (base := w.heap.size) (e := 3) (size := 1) w1 #[] 0 hb1.size (by unfold maxLen; omega) rfl
  have hrd2 := Rd.of_own hown2
  have hbel1 := bel_alloc hb1 (.cells #[] 3)
  have hnn := Lib.hid (show fdOf s.toList = (((tokensL s.toList).drop 0).foldl tokStep fd0) from rfl)
  clear hown1 hown2 hb1
  go_wp2
  go_loopw [5, 6, 7, 8, 9] (fun vt vd vm vy vi wr => RpRel s.toList w A cp vt vd vm vy vi wr) (fun _ _ _ _ vi _ => (tokensL s.toList).length + 1 - (intOf vi).toNat)
  case atStart => exact ⟨0, -1, -1, -1, -1, true, 0, [], _, _, rfl, by omega, rfl, rfl, .inl ⟨rfl, rfl⟩, rfl, rfl, hrd2, .inl ⟨rfl, rfl, rfl⟩, ⟨by decide, by decide, by decide, by decide⟩, hrd1, hbel1, hnn.out⟩
  case round =>
    clear hbel1 hrd1 hrd2 hnn
    obtain ⟨k, t, d, m, y, r, mm, tm, A2, c2, rfl, hk, rfl, rfl, hmm, rfl, rfl, hrt, htm, hok, hrd, hbel, hin⟩ := hrel
    obtain ⟨hok1, hok2, hok3, hok4⟩ := hok
    simp only at hok1 hok2 hok3 hok4
    by_cases hlt : k < (tokensL s.toList).length
    · have hlti : (k : Int) < (tokensL s.toList).length := by omega
      have hkt : (tokensL s.toList)[k]? = some ((tokensL s.toList).getD k []) := by rw [List.getD_eq_getElem?_getD, List.getElem?_eq_getElem hlt]; rfl
      have hts : ((tokensL s.toList).getD k []).length ≤ s.size := by rw [hlen.out]; exact htk.out _ (List.mem_of_getElem? hkt)
      have hst := Lib.hid (show fdOf s.toList = (((tokensL s.toList).drop (k + 1)).foldl tokStep (tokStep ⟨t, d, m, y, r⟩ ((tokensL s.toList).getD k []))) by
        rw [hin.out, List.drop_eq_getElem_cons hlt, List.foldl_cons, List.getD_eq_getElem?_getD, List.getElem?_eq_getElem hlt]; rfl)
      have hok := fd_step (f := ⟨t, d, m, y, r⟩) ⟨hok1, hok2, hok3, hok4⟩ ((tokensL s.toList).getD k [])
      obtain ⟨b, off, rfl, hbl, hc⟩ := hrd.at_ (by omega)
      have hck := hc k (by simpa using hlt)
      rw [List.getElem?_map, hkt] at hck
      replace hck : wr.cell? ⟨b, off + k, none⟩ = some (.string (S ((tokensL s.toList).getD k []))) := hck
      clear hc hkt hin
      generalize (tokensL s.toList).getD k [] = tk at *
      rw [tokStep_ref] at hst hok
      have hzt : (S tk).size ≤ maxLen := by rw [S_size]; unfold maxLen; omega
      have hzt2 : (S tk).size ≤ 4294967296 := by rw [S_size]; omega
      go_wp2_with fail
      refine (refTime_any (S tk) _ hzt2).mono ?_
      rintro e w2 ⟨A3, c3, rfl, hown3, hb2⟩
      rw [S_toList] at hown3 ⊢
      have hrd3 := Rd.of_own hown3
      have hrt2 := hrt.below hb2
      have hrd2 := hrd.below hb2
      have hbel2 := bel_call hbel hb2
      have hck2 : w2.cell? ⟨b, off + k, none⟩ = some (.string (S tk)) := (hb2.cell (p := ⟨b, off + k, none⟩) hbl).trans hck
      have hbl2 : b < w2.heap.size := Nat.lt_of_lt_of_le hbl hb2.size
      clear hown3 hrt hrd hbel hck hbl hb2
      rcases htm with ⟨rfl, ht1, hr1⟩ | ⟨h0, m0, s0, rfl, hb01, hb02, hb03, ht1, hr1⟩
      · simp only at ht1 hr1
        cases hq0 : (timeL tk).isSome with
        | true =>
          have e0 := Lib.hid (show (t < 0) = True from eq_true (by omega))
          obtain ⟨hck0, htmn⟩ := tm_some hq0 ⟨t, d, m, y, r⟩
          have hq0H := Lib.hid hq0
          have hT := Lib.hid (show (if t < 0 ∧ (clockT tk).isSome = true then Fd.mk (clkR tk).1 d m y (clkR tk).2 else if d < 0 ∧ digitsB tk 1 2 = true then Fd.mk t (valueI tk) m y r else if m < 0 ∧ 0 < monthI tk then Fd.mk t d (monthI tk) y r else if y < 0 ∧ digitsB tk 2 4 = true then Fd.mk t d m (valueI tk) r else Fd.mk t d m y r) = ⟨(clkR tk).1, d, m, y, (clkR tk).2⟩ by simp [e0.out, hck0])
          replace hst := Lib.hid (hst.out.trans (congrArg (fun z => List.foldl tokStep z ((tokensL s.toList).drop (k + 1))) hT.out))
          have hok2 := hok
          replace hok2 : FdOk ⟨(clkR tk).1, d, m, y, (clkR tk).2⟩ := by have e := hT.out; rw [← e]; exact hok
          clear hT hok
          go_wp2
          go_roundw
          case rel => exact ⟨k + 1, (clkR tk).1, d, m, y, (clkR tk).2, mm, ((timeL tk).getD []), A3, c3, by go_num, by omega, rfl, rfl, hmm, rfl, rfl, hrd3, htmn, hok2, hrd2, hbel2, hst.out⟩
          case measure => simp [intOf]; omega
        | false =>
          have E0 := Lib.hid (show ((clockT tk).isSome = true) = False from eq_false (by rw [tm_none hq0]; decide))
          by_cases g1 : d < 0
          · have e1 := Lib.hid (eq_true g1)
            cases hq1 : digitsB tk 1 2 with
            | true =>
              have hq1H := Lib.hid hq1
              go_wp2_with fail
              refine (refDigits7_any (S tk) 1 2 _ hzt).mono ?_
              rintro e w' ⟨rfl, rfl⟩
              rw [S_toList, hq1H.out]
              go_wp2_with fail
              refine (value_any (S tk) _ hzt).mono ?_
              rintro e w' ⟨rfl, rfl⟩
              rw [S_toList]
              have hT := Lib.hid (show (if t < 0 ∧ (clockT tk).isSome = true then Fd.mk (clkR tk).1 d m y (clkR tk).2 else if d < 0 ∧ digitsB tk 1 2 = true then Fd.mk t (valueI tk) m y r else if m < 0 ∧ 0 < monthI tk then Fd.mk t d (monthI tk) y r else if y < 0 ∧ digitsB tk 2 4 = true then Fd.mk t d m (valueI tk) r else Fd.mk t d m y r) = ⟨t, valueI tk, m, y, r⟩ by simp [E0.out, e1.out, hq1])
              replace hst := Lib.hid (hst.out.trans (congrArg (fun z => List.foldl tokStep z ((tokensL s.toList).drop (k + 1))) hT.out))
              have hok2 := hok
              replace hok2 : FdOk ⟨t, valueI tk, m, y, r⟩ := by have e := hT.out; rw [← e]; exact hok
              clear hT hok
              go_wp2
              go_roundw
              case rel => exact ⟨k + 1, t, valueI tk, m, y, r, mm, [], A2, c2, by go_num, by omega, rfl, rfl, hmm, rfl, rfl, hrt2, .inl ⟨rfl, ht1, hr1⟩, hok2, hrd2, hbel2, hst.out⟩
              case measure => simp [intOf]; omega
            | false =>
              have hq1H := Lib.hid hq1
              go_wp2_with fail
              refine (refDigits7_any (S tk) 1 2 _ hzt).mono ?_
              rintro e w' ⟨rfl, rfl⟩
              rw [S_toList, hq1H.out]
              rcases hmm with ⟨g2, g2m⟩ | ⟨g2, g2m⟩
              · subst g2m
                have e2 := Lib.hid (show (m < 0) = True from eq_true (by omega))
                by_cases hq2 : 0 < monthI tk
                · have E2 := Lib.hid (eq_true hq2)
                  go_wp2_with fail
                  refine (refMonth_any (S tk) _ hzt2).mono ?_
                  rintro e w3 ⟨rfl, hb3⟩
                  rw [S_toList]
                  have hrt3 := hrt2.below hb3
                  have hrd3' := hrd2.below hb3
                  have hbel3 := bel_call hbel2 hb3
                  have hck3 : w3.cell? ⟨b, off + k, none⟩ = some (.string (S tk)) := (hb3.cell (p := ⟨b, off + k, none⟩) hbl2).trans hck2
                  have hbl3 : b < w3.heap.size := Nat.lt_of_lt_of_le hbl2 hb3.size
                  clear hrt2 hrd2 hbel2 hck2 hbl2 hb3
                  go_wp2_with fail
                  refine (refMonth_any (S tk) _ hzt2).mono ?_
                  rintro e w4 ⟨rfl, hb4⟩
                  rw [S_toList]
                  have hrt4 := hrt3.below hb4
                  have hrd4' := hrd3'.below hb4
                  have hbel4 := bel_call hbel3 hb4
                  have hck4 : w4.cell? ⟨b, off + k, none⟩ = some (.string (S tk)) := (hb4.cell (p := ⟨b, off + k, none⟩) hbl3).trans hck3
                  have hbl4 : b < w4.heap.size := Nat.lt_of_lt_of_le hbl3 hb4.size
                  clear hrt3 hrd3' hbel3 hck3 hbl3 hb4
                  have hT := Lib.hid (show (if t < 0 ∧ (clockT tk).isSome = true then Fd.mk (clkR tk).1 d m y (clkR tk).2 else if d < 0 ∧ digitsB tk 1 2 = true then Fd.mk t (valueI tk) m y r else if m < 0 ∧ 0 < monthI tk then Fd.mk t d (monthI tk) y r else if y < 0 ∧ digitsB tk 2 4 = true then Fd.mk t d m (valueI tk) r else Fd.mk t d m y r) = ⟨t, d, monthI tk, y, r⟩ by simp [E0.out, hq1, e2.out, E2.out])
                  replace hst := Lib.hid (hst.out.trans (congrArg (fun z => List.foldl tokStep z ((tokensL s.toList).drop (k + 1))) hT.out))
                  have hok2 := hok
                  replace hok2 : FdOk ⟨t, d, monthI tk, y, r⟩ := by have e := hT.out; rw [← e]; exact hok
                  clear hT hok
                  go_wp2
                  go_roundw
                  case rel => exact ⟨k + 1, t, d, monthI tk, y, r, monthI tk, [], A2, c2, by go_num, by omega, rfl, rfl, .inr ⟨rfl, hq2⟩, rfl, rfl, hrt4, .inl ⟨rfl, ht1, hr1⟩, hok2, hrd4', hbel4, hst.out⟩
                  case measure => simp [intOf]; omega
                · have E2 := Lib.hid (eq_false hq2)
                  go_wp2_with fail
                  refine (refMonth_any (S tk) _ hzt2).mono ?_
                  rintro e w3 ⟨rfl, hb3⟩
                  rw [S_toList]
                  have hrt3 := hrt2.below hb3
                  have hrd3' := hrd2.below hb3
                  have hbel3 := bel_call hbel2 hb3
                  have hck3 : w3.cell? ⟨b, off + k, none⟩ = some (.string (S tk)) := (hb3.cell (p := ⟨b, off + k, none⟩) hbl2).trans hck2
                  have hbl3 : b < w3.heap.size := Nat.lt_of_lt_of_le hbl2 hb3.size
                  clear hrt2 hrd2 hbel2 hck2 hbl2 hb3
                  by_cases g3 : y < 0
                  · have e3 := Lib.hid (eq_true g3)
                    cases hq3 : digitsB tk 2 4 with
                    | true =>
                      have hq3H := Lib.hid hq3
                      go_wp2_with fail
                      refine (refDigits7_any (S tk) 2 4 _ hzt).mono ?_
                      rintro e w' ⟨rfl, rfl⟩
                      rw [S_toList, hq3H.out]
                      go_wp2_with fail
                      refine (value_any (S tk) _ hzt).mono ?_
                      rintro e w' ⟨rfl, rfl⟩
                      rw [S_toList]
                      have hT := Lib.hid (show (if t < 0 ∧ (clockT tk).isSome = true then Fd.mk (clkR tk).1 d m y (clkR tk).2 else if d < 0 ∧ digitsB tk 1 2 = true then Fd.mk t (valueI tk) m y r else if m < 0 ∧ 0 < monthI tk then Fd.mk t d (monthI tk) y r else if y < 0 ∧ digitsB tk 2 4 = true then Fd.mk t d m (valueI tk) r else Fd.mk t d m y r) = ⟨t, d, m, valueI tk, r⟩ by simp [E0.out, hq1, E2.out, e3.out, hq3])
                      replace hst := Lib.hid (hst.out.trans (congrArg (fun z => List.foldl tokStep z ((tokensL s.toList).drop (k + 1))) hT.out))
                      have hok2 := hok
                      replace hok2 : FdOk ⟨t, d, m, valueI tk, r⟩ := by have e := hT.out; rw [← e]; exact hok
                      clear hT hok
                      go_wp2
                      go_roundw
                      case rel => exact ⟨k + 1, t, d, m, valueI tk, r, 0, [], A2, c2, by go_num, by omega, rfl, rfl, .inl ⟨g2, rfl⟩, rfl, rfl, hrt3, .inl ⟨rfl, ht1, hr1⟩, hok2, hrd3', hbel3, hst.out⟩
                      case measure => simp [intOf]; omega
                    | false =>
                      have hq3H := Lib.hid hq3
                      go_wp2_with fail
                      refine (refDigits7_any (S tk) 2 4 _ hzt).mono ?_
                      rintro e w' ⟨rfl, rfl⟩
                      rw [S_toList, hq3H.out]
                      have hT := Lib.hid (show (if t < 0 ∧ (clockT tk).isSome = true then Fd.mk (clkR tk).1 d m y (clkR tk).2 else if d < 0 ∧ digitsB tk 1 2 = true then Fd.mk t (valueI tk) m y r else if m < 0 ∧ 0 < monthI tk then Fd.mk t d (monthI tk) y r else if y < 0 ∧ digitsB tk 2 4 = true then Fd.mk t d m (valueI tk) r else Fd.mk t d m y r) = ⟨t, d, m, y, r⟩ by simp [E0.out, hq1, E2.out, hq3])
                      replace hst := Lib.hid (hst.out.trans (congrArg (fun z => List.foldl tokStep z ((tokensL s.toList).drop (k + 1))) hT.out))
                      have hok2 := hok
                      replace hok2 : FdOk ⟨t, d, m, y, r⟩ := by have e := hT.out; rw [← e]; exact hok
                      clear hT hok
                      go_wp2
                      go_roundw
                      case rel => exact ⟨k + 1, t, d, m, y, r, 0, [], A2, c2, by go_num, by omega, rfl, rfl, .inl ⟨g2, rfl⟩, rfl, rfl, hrt3, .inl ⟨rfl, ht1, hr1⟩, hok2, hrd3', hbel3, hst.out⟩
                      case measure => simp [intOf]; omega
                  · have e3 := Lib.hid (eq_false g3)
                    have hT := Lib.hid (show (if t < 0 ∧ (clockT tk).isSome = true then Fd.mk (clkR tk).1 d m y (clkR tk).2 else if d < 0 ∧ digitsB tk 1 2 = true then Fd.mk t (valueI tk) m y r else if m < 0 ∧ 0 < monthI tk then Fd.mk t d (monthI tk) y r else if y < 0 ∧ digitsB tk 2 4 = true then Fd.mk t d m (valueI tk) r else Fd.mk t d m y r) = ⟨t, d, m, y, r⟩ by simp [E0.out, hq1, E2.out, e3.out])
                    replace hst := Lib.hid (hst.out.trans (congrArg (fun z => List.foldl tokStep z ((tokensL s.toList).drop (k + 1))) hT.out))
                    have hok2 := hok
                    replace hok2 : FdOk ⟨t, d, m, y, r⟩ := by have e := hT.out; rw [← e]; exact hok
                    clear hT hok
                    go_wp2
                    go_roundw
                    case rel => exact ⟨k + 1, t, d, m, y, r, 0, [], A2, c2, by go_num, by omega, rfl, rfl, .inl ⟨g2, rfl⟩, rfl, rfl, hrt3, .inl ⟨rfl, ht1, hr1⟩, hok2, hrd3', hbel3, hst.out⟩
                    case measure => simp [intOf]; omega
              · subst g2
                have e2 := Lib.hid (show (m < 0) = False from eq_false (by omega))
                have hz0 : (m == 0) = false := beq_eq_false_iff_ne.2 (by omega)
                by_cases g3 : y < 0
                · have e3 := Lib.hid (eq_true g3)
                  cases hq3 : digitsB tk 2 4 with
                  | true =>
                    have hq3H := Lib.hid hq3
                    go_wp2_with fail
                    refine (refDigits7_any (S tk) 2 4 _ hzt).mono ?_
                    rintro e w' ⟨rfl, rfl⟩
                    rw [S_toList, hq3H.out]
                    go_wp2_with fail
                    refine (value_any (S tk) _ hzt).mono ?_
                    rintro e w' ⟨rfl, rfl⟩
                    rw [S_toList]
                    have hT := Lib.hid (show (if t < 0 ∧ (clockT tk).isSome = true then Fd.mk (clkR tk).1 d m y (clkR tk).2 else if d < 0 ∧ digitsB tk 1 2 = true then Fd.mk t (valueI tk) m y r else if m < 0 ∧ 0 < monthI tk then Fd.mk t d (monthI tk) y r else if y < 0 ∧ digitsB tk 2 4 = true then Fd.mk t d m (valueI tk) r else Fd.mk t d m y r) = ⟨t, d, m, valueI tk, r⟩ by simp [E0.out, hq1, e2.out, e3.out, hq3])
                    replace hst := Lib.hid (hst.out.trans (congrArg (fun z => List.foldl tokStep z ((tokensL s.toList).drop (k + 1))) hT.out))
                    have hok2 := hok
                    replace hok2 : FdOk ⟨t, d, m, valueI tk, r⟩ := by have e := hT.out; rw [← e]; exact hok
                    clear hT hok
                    go_wp2
                    go_roundw
                    case rel => exact ⟨k + 1, t, d, m, valueI tk, r, m, [], A2, c2, by go_num, by omega, rfl, rfl, .inr ⟨rfl, g2m⟩, rfl, rfl, hrt2, .inl ⟨rfl, ht1, hr1⟩, hok2, hrd2, hbel2, hst.out⟩
                    case measure => simp [intOf]; omega
                  | false =>
                    have hq3H := Lib.hid hq3
                    go_wp2_with fail
                    refine (refDigits7_any (S tk) 2 4 _ hzt).mono ?_
                    rintro e w' ⟨rfl, rfl⟩
                    rw [S_toList, hq3H.out]
                    have hT := Lib.hid (show (if t < 0 ∧ (clockT tk).isSome = true then Fd.mk (clkR tk).1 d m y (clkR tk).2 else if d < 0 ∧ digitsB tk 1 2 = true then Fd.mk t (valueI tk) m y r else if m < 0 ∧ 0 < monthI tk then Fd.mk t d (monthI tk) y r else if y < 0 ∧ digitsB tk 2 4 = true then Fd.mk t d m (valueI tk) r else Fd.mk t d m y r) = ⟨t, d, m, y, r⟩ by simp [E0.out, hq1, e2.out, hq3])
                    replace hst := Lib.hid (hst.out.trans (congrArg (fun z => List.foldl tokStep z ((tokensL s.toList).drop (k + 1))) hT.out))
                    have hok2 := hok
                    replace hok2 : FdOk ⟨t, d, m, y, r⟩ := by have e := hT.out; rw [← e]; exact hok
                    clear hT hok
                    go_wp2
                    go_roundw
                    case rel => exact ⟨k + 1, t, d, m, y, r, m, [], A2, c2, by go_num, by omega, rfl, rfl, .inr ⟨rfl, g2m⟩, rfl, rfl, hrt2, .inl ⟨rfl, ht1, hr1⟩, hok2, hrd2, hbel2, hst.out⟩
                    case measure => simp [intOf]; omega
                · have e3 := Lib.hid (eq_false g3)
                  have hT := Lib.hid (show (if t < 0 ∧ (clockT tk).isSome = true then Fd.mk (clkR tk).1 d m y (clkR tk).2 else if d < 0 ∧ digitsB tk 1 2 = true then Fd.mk t (valueI tk) m y r else if m < 0 ∧ 0 < monthI tk then Fd.mk t d (monthI tk) y r else if y < 0 ∧ digitsB tk 2 4 = true then Fd.mk t d m (valueI tk) r else Fd.mk t d m y r) = ⟨t, d, m, y, r⟩ by simp [E0.out, hq1, e2.out, e3.out])
                  replace hst := Lib.hid (hst.out.trans (congrArg (fun z => List.foldl tokStep z ((tokensL s.toList).drop (k + 1))) hT.out))
                  have hok2 := hok
                  replace hok2 : FdOk ⟨t, d, m, y, r⟩ := by have e := hT.out; rw [← e]; exact hok
                  clear hT hok
                  go_wp2
                  go_roundw
                  case rel => exact ⟨k + 1, t, d, m, y, r, m, [], A2, c2, by go_num, by omega, rfl, rfl, .inr ⟨rfl, g2m⟩, rfl, rfl, hrt2, .inl ⟨rfl, ht1, hr1⟩, hok2, hrd2, hbel2, hst.out⟩
                  case measure => simp [intOf]; omega
          · have e1 := Lib.hid (eq_false g1)
            rcases hmm with ⟨g2, g2m⟩ | ⟨g2, g2m⟩
            · subst g2m
              have e2 := Lib.hid (show (m < 0) = True from eq_true (by omega))
              by_cases hq2 : 0 < monthI tk
              · have E2 := Lib.hid (eq_true hq2)
                go_wp2_with fail
                refine (refMonth_any (S tk) _ hzt2).mono ?_
                rintro e w3 ⟨rfl, hb3⟩
                rw [S_toList]
                have hrt3 := hrt2.below hb3
                have hrd3' := hrd2.below hb3
                have hbel3 := bel_call hbel2 hb3
                have hck3 : w3.cell? ⟨b, off + k, none⟩ = some (.string (S tk)) := (hb3.cell (p := ⟨b, off + k, none⟩) hbl2).trans hck2
                have hbl3 : b < w3.heap.size := Nat.lt_of_lt_of_le hbl2 hb3.size
                clear hrt2 hrd2 hbel2 hck2 hbl2 hb3
                go_wp2_with fail
                refine (refMonth_any (S tk) _ hzt2).mono ?_
                rintro e w4 ⟨rfl, hb4⟩
                rw [S_toList]
                have hrt4 := hrt3.below hb4
                have hrd4' := hrd3'.below hb4
                have hbel4 := bel_call hbel3 hb4
                have hck4 : w4.cell? ⟨b, off + k, none⟩ = some (.string (S tk)) := (hb4.cell (p := ⟨b, off + k, none⟩) hbl3).trans hck3
                have hbl4 : b < w4.heap.size := Nat.lt_of_lt_of_le hbl3 hb4.size
                clear hrt3 hrd3' hbel3 hck3 hbl3 hb4
                have hT := Lib.hid (show (if t < 0 ∧ (clockT tk).isSome = true then Fd.mk (clkR tk).1 d m y (clkR tk).2 else if d < 0 ∧ digitsB tk 1 2 = true then Fd.mk t (valueI tk) m y r else if m < 0 ∧ 0 < monthI tk then Fd.mk t d (monthI tk) y r else if y < 0 ∧ digitsB tk 2 4 = true then Fd.mk t d m (valueI tk) r else Fd.mk t d m y r) = ⟨t, d, monthI tk, y, r⟩ by simp [E0.out, e1.out, e2.out, E2.out])
                replace hst := Lib.hid (hst.out.trans (congrArg (fun z => List.foldl tokStep z ((tokensL s.toList).drop (k + 1))) hT.out))
                have hok2 := hok
                replace hok2 : FdOk ⟨t, d, monthI tk, y, r⟩ := by have e := hT.out; rw [← e]; exact hok
                clear hT hok
                go_wp2
                go_roundw
                case rel => exact ⟨k + 1, t, d, monthI tk, y, r, monthI tk, [], A2, c2, by go_num, by omega, rfl, rfl, .inr ⟨rfl, hq2⟩, rfl, rfl, hrt4, .inl ⟨rfl, ht1, hr1⟩, hok2, hrd4', hbel4, hst.out⟩
                case measure => simp [intOf]; omega
              · have E2 := Lib.hid (eq_false hq2)
                go_wp2_with fail
                refine (refMonth_any (S tk) _ hzt2).mono ?_
                rintro e w3 ⟨rfl, hb3⟩
                rw [S_toList]
                have hrt3 := hrt2.below hb3
                have hrd3' := hrd2.below hb3
                have hbel3 := bel_call hbel2 hb3
                have hck3 : w3.cell? ⟨b, off + k, none⟩ = some (.string (S tk)) := (hb3.cell (p := ⟨b, off + k, none⟩) hbl2).trans hck2
                have hbl3 : b < w3.heap.size := Nat.lt_of_lt_of_le hbl2 hb3.size
                clear hrt2 hrd2 hbel2 hck2 hbl2 hb3
                by_cases g3 : y < 0
                · have e3 := Lib.hid (eq_true g3)
                  cases hq3 : digitsB tk 2 4 with
                  | true =>
                    have hq3H := Lib.hid hq3
                    go_wp2_with fail
                    refine (refDigits7_any (S tk) 2 4 _ hzt).mono ?_
                    rintro e w' ⟨rfl, rfl⟩
                    rw [S_toList, hq3H.out]
                    go_wp2_with fail
                    refine (value_any (S tk) _ hzt).mono ?_
                    rintro e w' ⟨rfl, rfl⟩
                    rw [S_toList]
                    have hT := Lib.hid (show (if t < 0 ∧ (clockT tk).isSome = true then Fd.mk (clkR tk).1 d m y (clkR tk).2 else if d < 0 ∧ digitsB tk 1 2 = true then Fd.mk t (valueI tk) m y r else if m < 0 ∧ 0 < monthI tk then Fd.mk t d (monthI tk) y r else if y < 0 ∧ digitsB tk 2 4 = true then Fd.mk t d m (valueI tk) r else Fd.mk t d m y r) = ⟨t, d, m, valueI tk, r⟩ by simp [E0.out, e1.out, E2.out, e3.out, hq3])
                    replace hst := Lib.hid (hst.out.trans (congrArg (fun z => List.foldl tokStep z ((tokensL s.toList).drop (k + 1))) hT.out))
                    have hok2 := hok
                    replace hok2 : FdOk ⟨t, d, m, valueI tk, r⟩ := by have e := hT.out; rw [← e]; exact hok
                    clear hT hok
                    go_wp2
                    go_roundw
                    case rel => exact ⟨k + 1, t, d, m, valueI tk, r, 0, [], A2, c2, by go_num, by omega, rfl, rfl, .inl ⟨g2, rfl⟩, rfl, rfl, hrt3, .inl ⟨rfl, ht1, hr1⟩, hok2, hrd3', hbel3, hst.out⟩
                    case measure => simp [intOf]; omega
                  | false =>
                    have hq3H := Lib.hid hq3
                    go_wp2_with fail
                    refine (refDigits7_any (S tk) 2 4 _ hzt).mono ?_
                    rintro e w' ⟨rfl, rfl⟩
                    rw [S_toList, hq3H.out]
                    have hT := Lib.hid (show (if t < 0 ∧ (clockT tk).isSome = true then Fd.mk (clkR tk).1 d m y (clkR tk).2 else if d < 0 ∧ digitsB tk 1 2 = true then Fd.mk t (valueI tk) m y r else if m < 0 ∧ 0 < monthI tk then Fd.mk t d (monthI tk) y r else if y < 0 ∧ digitsB tk 2 4 = true then Fd.mk t d m (valueI tk) r else Fd.mk t d m y r) = ⟨t, d, m, y, r⟩ by simp [E0.out, e1.out, E2.out, hq3])
                    replace hst := Lib.hid (hst.out.trans (congrArg (fun z => List.foldl tokStep z ((tokensL s.toList).drop (k + 1))) hT.out))
                    have hok2 := hok
                    replace hok2 : FdOk ⟨t, d, m, y, r⟩ := by have e := hT.out; rw [← e]; exact hok
                    clear hT hok
                    go_wp2
                    go_roundw
                    case rel => exact ⟨k + 1, t, d, m, y, r, 0, [], A2, c2, by go_num, by omega, rfl, rfl, .inl ⟨g2, rfl⟩, rfl, rfl, hrt3, .inl ⟨rfl, ht1, hr1⟩, hok2, hrd3', hbel3, hst.out⟩
                    case measure => simp [intOf]; omega
                · have e3 := Lib.hid (eq_false g3)
                  have hT := Lib.hid (show (if t < 0 ∧ (clockT tk).isSome = true then Fd.mk (clkR tk).1 d m y (clkR tk).2 else if d < 0 ∧ digitsB tk 1 2 = true then Fd.mk t (valueI tk) m y r else if m < 0 ∧ 0 < monthI tk then Fd.mk t d (monthI tk) y r else if y < 0 ∧ digitsB tk 2 4 = true then Fd.mk t d m (valueI tk) r else Fd.mk t d m y r) = ⟨t, d, m, y, r⟩ by simp [E0.out, e1.out, E2.out, e3.out])
                  replace hst := Lib.hid (hst.out.trans (congrArg (fun z => List.foldl tokStep z ((tokensL s.toList).drop (k + 1))) hT.out))
                  have hok2 := hok
                  replace hok2 : FdOk ⟨t, d, m, y, r⟩ := by have e := hT.out; rw [← e]; exact hok
                  clear hT hok
                  go_wp2
                  go_roundw
                  case rel => exact ⟨k + 1, t, d, m, y, r, 0, [], A2, c2, by go_num, by omega, rfl, rfl, .inl ⟨g2, rfl⟩, rfl, rfl, hrt3, .inl ⟨rfl, ht1, hr1⟩, hok2, hrd3', hbel3, hst.out⟩
                  case measure => simp [intOf]; omega
            · subst g2
              have e2 := Lib.hid (show (m < 0) = False from eq_false (by omega))
              have hz0 : (m == 0) = false := beq_eq_false_iff_ne.2 (by omega)
              by_cases g3 : y < 0
              · have e3 := Lib.hid (eq_true g3)
                cases hq3 : digitsB tk 2 4 with
                | true =>
                  have hq3H := Lib.hid hq3
                  go_wp2_with fail
                  refine (refDigits7_any (S tk) 2 4 _ hzt).mono ?_
                  rintro e w' ⟨rfl, rfl⟩
                  rw [S_toList, hq3H.out]
                  go_wp2_with fail
                  refine (value_any (S tk) _ hzt).mono ?_
                  rintro e w' ⟨rfl, rfl⟩
                  rw [S_toList]
                  have hT := Lib.hid (show (if t < 0 ∧ (clockT tk).isSome = true then Fd.mk (clkR tk).1 d m y (clkR tk).2 else if d < 0 ∧ digitsB tk 1 2 = true then Fd.mk t (valueI tk) m y r else if m < 0 ∧ 0 < monthI tk then Fd.mk t d (monthI tk) y r else if y < 0 ∧ digitsB tk 2 4 = true then Fd.mk t d m (valueI tk) r else Fd.mk t d m y r) = ⟨t, d, m, valueI tk, r⟩ by simp [E0.out, e1.out, e2.out, e3.out, hq3])
                  replace hst := Lib.hid (hst.out.trans (congrArg (fun z => List.foldl tokStep z ((tokensL s.toList).drop (k + 1))) hT.out))
                  have hok2 := hok
                  replace hok2 : FdOk ⟨t, d, m, valueI tk, r⟩ := by have e := hT.out; rw [← e]; exact hok
                  clear hT hok
                  go_wp2
                  go_roundw
                  case rel => exact ⟨k + 1, t, d, m, valueI tk, r, m, [], A2, c2, by go_num, by omega, rfl, rfl, .inr ⟨rfl, g2m⟩, rfl, rfl, hrt2, .inl ⟨rfl, ht1, hr1⟩, hok2, hrd2, hbel2, hst.out⟩
                  case measure => simp [intOf]; omega
                | false =>
                  have hq3H := Lib.hid hq3
                  go_wp2_with fail
                  refine (refDigits7_any (S tk) 2 4 _ hzt).mono ?_
                  rintro e w' ⟨rfl, rfl⟩
                  rw [S_toList, hq3H.out]
                  have hT := Lib.hid (show (if t < 0 ∧ (clockT tk).isSome = true then Fd.mk (clkR tk).1 d m y (clkR tk).2 else if d < 0 ∧ digitsB tk 1 2 = true then Fd.mk t (valueI tk) m y r else if m < 0 ∧ 0 < monthI tk then Fd.mk t d (monthI tk) y r else if y < 0 ∧ digitsB tk 2 4 = true then Fd.mk t d m (valueI tk) r else Fd.mk t d m y r) = ⟨t, d, m, y, r⟩ by simp [E0.out, e1.out, e2.out, hq3])
                  replace hst := Lib.hid (hst.out.trans (congrArg (fun z => List.foldl tokStep z ((tokensL s.toList).drop (k + 1))) hT.out))
                  have hok2 := hok
                  replace hok2 : FdOk ⟨t, d, m, y, r⟩ := by have e := hT.out; rw [← e]; exact hok
                  clear hT hok
                  go_wp2
                  go_roundw
                  case rel => exact ⟨k + 1, t, d, m, y, r, m, [], A2, c2, by go_num, by omega, rfl, rfl, .inr ⟨rfl, g2m⟩, rfl, rfl, hrt2, .inl ⟨rfl, ht1, hr1⟩, hok2, hrd2, hbel2, hst.out⟩
                  case measure => simp [intOf]; omega
              · have e3 := Lib.hid (eq_false g3)
                have hT := Lib.hid (show (if t < 0 ∧ (clockT tk).isSome = true then Fd.mk (clkR tk).1 d m y (clkR tk).2 else if d < 0 ∧ digitsB tk 1 2 = true then Fd.mk t (valueI tk) m y r else if m < 0 ∧ 0 < monthI tk then Fd.mk t d (monthI tk) y r else if y < 0 ∧ digitsB tk 2 4 = true then Fd.mk t d m (valueI tk) r else Fd.mk t d m y r) = ⟨t, d, m, y, r⟩ by simp [E0.out, e1.out, e2.out, e3.out])
                replace hst := Lib.hid (hst.out.trans (congrArg (fun z => List.foldl tokStep z ((tokensL s.toList).drop (k + 1))) hT.out))
                have hok2 := hok
                replace hok2 : FdOk ⟨t, d, m, y, r⟩ := by have e := hT.out; rw [← e]; exact hok
                clear hT hok
                go_wp2
                go_roundw
                case rel => exact ⟨k + 1, t, d, m, y, r, m, [], A2, c2, by go_num, by omega, rfl, rfl, .inr ⟨rfl, g2m⟩, rfl, rfl, hrt2, .inl ⟨rfl, ht1, hr1⟩, hok2, hrd2, hbel2, hst.out⟩
                case measure => simp [intOf]; omega
      · simp only at ht1 hr1
        have e0 := Lib.hid (show (t < 0) = False from eq_false (by omega))
        by_cases g1 : d < 0
        · have e1 := Lib.hid (eq_true g1)
          cases hq1 : digitsB tk 1 2 with
          | true =>
            have hq1H := Lib.hid hq1
            go_wp2_with fail
            refine (refDigits7_any (S tk) 1 2 _ hzt).mono ?_
            rintro e w' ⟨rfl, rfl⟩
            rw [S_toList, hq1H.out]
            go_wp2_with fail
            refine (value_any (S tk) _ hzt).mono ?_
            rintro e w' ⟨rfl, rfl⟩
            rw [S_toList]
            have hT := Lib.hid (show (if t < 0 ∧ (clockT tk).isSome = true then Fd.mk (clkR tk).1 d m y (clkR tk).2 else if d < 0 ∧ digitsB tk 1 2 = true then Fd.mk t (valueI tk) m y r else if m < 0 ∧ 0 < monthI tk then Fd.mk t d (monthI tk) y r else if y < 0 ∧ digitsB tk 2 4 = true then Fd.mk t d m (valueI tk) r else Fd.mk t d m y r) = ⟨t, valueI tk, m, y, r⟩ by simp [e0.out, e1.out, hq1])
            replace hst := Lib.hid (hst.out.trans (congrArg (fun z => List.foldl tokStep z ((tokensL s.toList).drop (k + 1))) hT.out))
            have hok2 := hok
            replace hok2 : FdOk ⟨t, valueI tk, m, y, r⟩ := by have e := hT.out; rw [← e]; exact hok
            clear hT hok
            go_wp2
            go_roundw
            case rel => exact ⟨k + 1, t, valueI tk, m, y, r, mm, [h0, m0, s0], A2, c2, by go_num, by omega, rfl, rfl, hmm, rfl, rfl, hrt2, .inr ⟨h0, m0, s0, rfl, hb01, hb02, hb03, ht1, hr1⟩, hok2, hrd2, hbel2, hst.out⟩
            case measure => simp [intOf]; omega
          | false =>
            have hq1H := Lib.hid hq1
            go_wp2_with fail
            refine (refDigits7_any (S tk) 1 2 _ hzt).mono ?_
            rintro e w' ⟨rfl, rfl⟩
            rw [S_toList, hq1H.out]
            rcases hmm with ⟨g2, g2m⟩ | ⟨g2, g2m⟩
            · subst g2m
              have e2 := Lib.hid (show (m < 0) = True from eq_true (by omega))
              by_cases hq2 : 0 < monthI tk
              · have E2 := Lib.hid (eq_true hq2)
                go_wp2_with fail
                refine (refMonth_any (S tk) _ hzt2).mono ?_
                rintro e w3 ⟨rfl, hb3⟩
                rw [S_toList]
                have hrt3 := hrt2.below hb3
                have hrd3' := hrd2.below hb3
                have hbel3 := bel_call hbel2 hb3
                have hck3 : w3.cell? ⟨b, off + k, none⟩ = some (.string (S tk)) := (hb3.cell (p := ⟨b, off + k, none⟩) hbl2).trans hck2
                have hbl3 : b < w3.heap.size := Nat.lt_of_lt_of_le hbl2 hb3.size
                clear hrt2 hrd2 hbel2 hck2 hbl2 hb3
                go_wp2_with fail
                refine (refMonth_any (S tk) _ hzt2).mono ?_
                rintro e w4 ⟨rfl, hb4⟩
                rw [S_toList]
                have hrt4 := hrt3.below hb4
                have hrd4' := hrd3'.below hb4
                have hbel4 := bel_call hbel3 hb4
                have hck4 : w4.cell? ⟨b, off + k, none⟩ = some (.string (S tk)) := (hb4.cell (p := ⟨b, off + k, none⟩) hbl3).trans hck3
                have hbl4 : b < w4.heap.size := Nat.lt_of_lt_of_le hbl3 hb4.size
                clear hrt3 hrd3' hbel3 hck3 hbl3 hb4
                have hT := Lib.hid (show (if t < 0 ∧ (clockT tk).isSome = true then Fd.mk (clkR tk).1 d m y (clkR tk).2 else if d < 0 ∧ digitsB tk 1 2 = true then Fd.mk t (valueI tk) m y r else if m < 0 ∧ 0 < monthI tk then Fd.mk t d (monthI tk) y r else if y < 0 ∧ digitsB tk 2 4 = true then Fd.mk t d m (valueI tk) r else Fd.mk t d m y r) = ⟨t, d, monthI tk, y, r⟩ by simp [e0.out, hq1, e2.out, E2.out])
                replace hst := Lib.hid (hst.out.trans (congrArg (fun z => List.foldl tokStep z ((tokensL s.toList).drop (k + 1))) hT.out))
                have hok2 := hok
                replace hok2 : FdOk ⟨t, d, monthI tk, y, r⟩ := by have e := hT.out; rw [← e]; exact hok
                clear hT hok
                go_wp2
                go_roundw
                case rel => exact ⟨k + 1, t, d, monthI tk, y, r, monthI tk, [h0, m0, s0], A2, c2, by go_num, by omega, rfl, rfl, .inr ⟨rfl, hq2⟩, rfl, rfl, hrt4, .inr ⟨h0, m0, s0, rfl, hb01, hb02, hb03, ht1, hr1⟩, hok2, hrd4', hbel4, hst.out⟩
                case measure => simp [intOf]; omega
              · have E2 := Lib.hid (eq_false hq2)
                go_wp2_with fail
                refine (refMonth_any (S tk) _ hzt2).mono ?_
                rintro e w3 ⟨rfl, hb3⟩
                rw [S_toList]
                have hrt3 := hrt2.below hb3
                have hrd3' := hrd2.below hb3
                have hbel3 := bel_call hbel2 hb3
                have hck3 : w3.cell? ⟨b, off + k, none⟩ = some (.string (S tk)) := (hb3.cell (p := ⟨b, off + k, none⟩) hbl2).trans hck2
                have hbl3 : b < w3.heap.size := Nat.lt_of_lt_of_le hbl2 hb3.size
                clear hrt2 hrd2 hbel2 hck2 hbl2 hb3
                by_cases g3 : y < 0
                · have e3 := Lib.hid (eq_true g3)
                  cases hq3 : digitsB tk 2 4 with
                  | true =>
                    have hq3H := Lib.hid hq3
                    go_wp2_with fail
                    refine (refDigits7_any (S tk) 2 4 _ hzt).mono ?_
                    rintro e w' ⟨rfl, rfl⟩
                    rw [S_toList, hq3H.out]
                    go_wp2_with fail
                    refine (value_any (S tk) _ hzt).mono ?_
                    rintro e w' ⟨rfl, rfl⟩
                    rw [S_toList]
                    have hT := Lib.hid (show (if t < 0 ∧ (clockT tk).isSome = true then Fd.mk (clkR tk).1 d m y (clkR tk).2 else if d < 0 ∧ digitsB tk 1 2 = true then Fd.mk t (valueI tk) m y r else if m < 0 ∧ 0 < monthI tk then Fd.mk t d (monthI tk) y r else if y < 0 ∧ digitsB tk 2 4 = true then Fd.mk t d m (valueI tk) r else Fd.mk t d m y r) = ⟨t, d, m, valueI tk, r⟩ by simp [e0.out, hq1, E2.out, e3.out, hq3])
                    replace hst := Lib.hid (hst.out.trans (congrArg (fun z => List.foldl tokStep z ((tokensL s.toList).drop (k + 1))) hT.out))
                    have hok2 := hok
                    replace hok2 : FdOk ⟨t, d, m, valueI tk, r⟩ := by have e := hT.out; rw [← e]; exact hok
                    clear hT hok
                    go_wp2
                    go_roundw
                    case rel => exact ⟨k + 1, t, d, m, valueI tk, r, 0, [h0, m0, s0], A2, c2, by go_num, by omega, rfl, rfl, .inl ⟨g2, rfl⟩, rfl, rfl, hrt3, .inr ⟨h0, m0, s0, rfl, hb01, hb02, hb03, ht1, hr1⟩, hok2, hrd3', hbel3, hst.out⟩
                    case measure => simp [intOf]; omega
                  | false =>
                    have hq3H := Lib.hid hq3
                    go_wp2_with fail
                    refine (refDigits7_any (S tk) 2 4 _ hzt).mono ?_
                    rintro e w' ⟨rfl, rfl⟩
                    rw [S_toList, hq3H.out]
                    have hT := Lib.hid (show (if t < 0 ∧ (clockT tk).isSome = true then Fd.mk (clkR tk).1 d m y (clkR tk).2 else if d < 0 ∧ digitsB tk 1 2 = true then Fd.mk t (valueI tk) m y r else if m < 0 ∧ 0 < monthI tk then Fd.mk t d (monthI tk) y r else if y < 0 ∧ digitsB tk 2 4 = true then Fd.mk t d m (valueI tk) r else Fd.mk t d m y r) = ⟨t, d, m, y, r⟩ by simp [e0.out, hq1, E2.out, hq3])
                    replace hst := Lib.hid (hst.out.trans (congrArg (fun z => List.foldl tokStep z ((tokensL s.toList).drop (k + 1))) hT.out))
                    have hok2 := hok
                    replace hok2 : FdOk ⟨t, d, m, y, r⟩ := by have e := hT.out; rw [← e]; exact hok
                    clear hT hok
                    go_wp2
                    go_roundw
                    case rel => exact ⟨k + 1, t, d, m, y, r, 0, [h0, m0, s0], A2, c2, by go_num, by omega, rfl, rfl, .inl ⟨g2, rfl⟩, rfl, rfl, hrt3, .inr ⟨h0, m0, s0, rfl, hb01, hb02, hb03, ht1, hr1⟩, hok2, hrd3', hbel3, hst.out⟩
                    case measure => simp [intOf]; omega
                · have e3 := Lib.hid (eq_false g3)
                  have hT := Lib.hid (show (if t < 0 ∧ (clockT tk).isSome = true then Fd.mk (clkR tk).1 d m y (clkR tk).2 else if d < 0 ∧ digitsB tk 1 2 = true then Fd.mk t (valueI tk) m y r else if m < 0 ∧ 0 < monthI tk then Fd.mk t d (monthI tk) y r else if y < 0 ∧ digitsB tk 2 4 = true then Fd.mk t d m (valueI tk) r else Fd.mk t d m y r) = ⟨t, d, m, y, r⟩ by simp [e0.out, hq1, E2.out, e3.out])
                  replace hst := Lib.hid (hst.out.trans (congrArg (fun z => List.foldl tokStep z ((tokensL s.toList).drop (k + 1))) hT.out))
                  have hok2 := hok
                  replace hok2 : FdOk ⟨t, d, m, y, r⟩ := by have e := hT.out; rw [← e]; exact hok
                  clear hT hok
                  go_wp2
                  go_roundw
                  case rel => exact ⟨k + 1, t, d, m, y, r, 0, [h0, m0, s0], A2, c2, by go_num, by omega, rfl, rfl, .inl ⟨g2, rfl⟩, rfl, rfl, hrt3, .inr ⟨h0, m0, s0, rfl, hb01, hb02, hb03, ht1, hr1⟩, hok2, hrd3', hbel3, hst.out⟩
                  case measure => simp [intOf]; omega
            · subst g2
              have e2 := Lib.hid (show (m < 0) = False from eq_false (by omega))
              have hz0 : (m == 0) = false := beq_eq_false_iff_ne.2 (by omega)
              by_cases g3 : y < 0
              · have e3 := Lib.hid (eq_true g3)
                cases hq3 : digitsB tk 2 4 with
                | true =>
                  have hq3H := Lib.hid hq3
                  go_wp2_with fail
                  refine (refDigits7_any (S tk) 2 4 _ hzt).mono ?_
                  rintro e w' ⟨rfl, rfl⟩
                  rw [S_toList, hq3H.out]
                  go_wp2_with fail
                  refine (value_any (S tk) _ hzt).mono ?_
                  rintro e w' ⟨rfl, rfl⟩
                  rw [S_toList]
                  have hT := Lib.hid (show (if t < 0 ∧ (clockT tk).isSome = true then Fd.mk (clkR tk).1 d m y (clkR tk).2 else if d < 0 ∧ digitsB tk 1 2 = true then Fd.mk t (valueI tk) m y r else if m < 0 ∧ 0 < monthI tk then Fd.mk t d (monthI tk) y r else if y < 0 ∧ digitsB tk 2 4 = true then Fd.mk t d m (valueI tk) r else Fd.mk t d m y r) = ⟨t, d, m, valueI tk, r⟩ by simp [e0.out, hq1, e2.out, e3.out, hq3])
                  replace hst := Lib.hid (hst.out.trans (congrArg (fun z => List.foldl tokStep z ((tokensL s.toList).drop (k + 1))) hT.out))
                  have hok2 := hok
                  replace hok2 : FdOk ⟨t, d, m, valueI tk, r⟩ := by have e := hT.out; rw [← e]; exact hok
                  clear hT hok
                  go_wp2
                  go_roundw
                  case rel => exact ⟨k + 1, t, d, m, valueI tk, r, m, [h0, m0, s0], A2, c2, by go_num, by omega, rfl, rfl, .inr ⟨rfl, g2m⟩, rfl, rfl, hrt2, .inr ⟨h0, m0, s0, rfl, hb01, hb02, hb03, ht1, hr1⟩, hok2, hrd2, hbel2, hst.out⟩
                  case measure => simp [intOf]; omega
                | false =>
                  have hq3H := Lib.hid hq3
                  go_wp2_with fail
                  refine (refDigits7_any (S tk) 2 4 _ hzt).mono ?_
                  rintro e w' ⟨rfl, rfl⟩
                  rw [S_toList, hq3H.out]
                  have hT := Lib.hid (show (if t < 0 ∧ (clockT tk).isSome = true then Fd.mk (clkR tk).1 d m y (clkR tk).2 else if d < 0 ∧ digitsB tk 1 2 = true then Fd.mk t (valueI tk) m y r else if m < 0 ∧ 0 < monthI tk then Fd.mk t d (monthI tk) y r else if y < 0 ∧ digitsB tk 2 4 = true then Fd.mk t d m (valueI tk) r else Fd.mk t d m y r) = ⟨t, d, m, y, r⟩ by simp [e0.out, hq1, e2.out, hq3])
                  replace hst := Lib.hid (hst.out.trans (congrArg (fun z => List.foldl tokStep z ((tokensL s.toList).drop (k + 1))) hT.out))
                  have hok2 := hok
                  replace hok2 : FdOk ⟨t, d, m, y, r⟩ := by have e := hT.out; rw [← e]; exact hok
                  clear hT hok
                  go_wp2
                  go_roundw
                  case rel => exact ⟨k + 1, t, d, m, y, r, m, [h0, m0, s0], A2, c2, by go_num, by omega, rfl, rfl, .inr ⟨rfl, g2m⟩, rfl, rfl, hrt2, .inr ⟨h0, m0, s0, rfl, hb01, hb02, hb03, ht1, hr1⟩, hok2, hrd2, hbel2, hst.out⟩
                  case measure => simp [intOf]; omega
              · have e3 := Lib.hid (eq_false g3)
                have hT := Lib.hid (show (if t < 0 ∧ (clockT tk).isSome = true then Fd.mk (clkR tk).1 d m y (clkR tk).2 else if d < 0 ∧ digitsB tk 1 2 = true then Fd.mk t (valueI tk) m y r else if m < 0 ∧ 0 < monthI tk then Fd.mk t d (monthI tk) y r else if y < 0 ∧ digitsB tk 2 4 = true then Fd.mk t d m (valueI tk) r else Fd.mk t d m y r) = ⟨t, d, m, y, r⟩ by simp [e0.out, hq1, e2.out, e3.out])
                replace hst := Lib.hid (hst.out.trans (congrArg (fun z => List.foldl tokStep z ((tokensL s.toList).drop (k + 1))) hT.out))
                have hok2 := hok
                replace hok2 : FdOk ⟨t, d, m, y, r⟩ := by have e := hT.out; rw [← e]; exact hok
                clear hT hok
                go_wp2
                go_roundw
                case rel => exact ⟨k + 1, t, d, m, y, r, m, [h0, m0, s0], A2, c2, by go_num, by omega, rfl, rfl, .inr ⟨rfl, g2m⟩, rfl, rfl, hrt2, .inr ⟨h0, m0, s0, rfl, hb01, hb02, hb03, ht1, hr1⟩, hok2, hrd2, hbel2, hst.out⟩
                case measure => simp [intOf]; omega
        · have e1 := Lib.hid (eq_false g1)
          rcases hmm with ⟨g2, g2m⟩ | ⟨g2, g2m⟩
          · subst g2m
            have e2 := Lib.hid (show (m < 0) = True from eq_true (by omega))
            by_cases hq2 : 0 < monthI tk
            · have E2 := Lib.hid (eq_true hq2)
              go_wp2_with fail
              refine (refMonth_any (S tk) _ hzt2).mono ?_
              rintro e w3 ⟨rfl, hb3⟩
              rw [S_toList]
              have hrt3 := hrt2.below hb3
              have hrd3' := hrd2.below hb3
              have hbel3 := bel_call hbel2 hb3
              have hck3 : w3.cell? ⟨b, off + k, none⟩ = some (.string (S tk)) := (hb3.cell (p := ⟨b, off + k, none⟩) hbl2).trans hck2
              have hbl3 : b < w3.heap.size := Nat.lt_of_lt_of_le hbl2 hb3.size
              clear hrt2 hrd2 hbel2 hck2 hbl2 hb3
              go_wp2_with fail
              refine (refMonth_any (S tk) _ hzt2).mono ?_
              rintro e w4 ⟨rfl, hb4⟩
              rw [S_toList]
              have hrt4 := hrt3.below hb4
              have hrd4' := hrd3'.below hb4
              have hbel4 := bel_call hbel3 hb4
              have hck4 : w4.cell? ⟨b, off + k, none⟩ = some (.string (S tk)) := (hb4.cell (p := ⟨b, off + k, none⟩) hbl3).trans hck3
              have hbl4 : b < w4.heap.size := Nat.lt_of_lt_of_le hbl3 hb4.size
              clear hrt3 hrd3' hbel3 hck3 hbl3 hb4
              have hT := Lib.hid (show (if t < 0 ∧ (clockT tk).isSome = true then Fd.mk (clkR tk).1 d m y (clkR tk).2 else if d < 0 ∧ digitsB tk 1 2 = true then Fd.mk t (valueI tk) m y r else if m < 0 ∧ 0 < monthI tk then Fd.mk t d (monthI tk) y r else if y < 0 ∧ digitsB tk 2 4 = true then Fd.mk t d m (valueI tk) r else Fd.mk t d m y r) = ⟨t, d, monthI tk, y, r⟩ by simp [e0.out, e1.out, e2.out, E2.out])
              replace hst := Lib.hid (hst.out.trans (congrArg (fun z => List.foldl tokStep z ((tokensL s.toList).drop (k + 1))) hT.out))
              have hok2 := hok
              replace hok2 : FdOk ⟨t, d, monthI tk, y, r⟩ := by have e := hT.out; rw [← e]; exact hok
              clear hT hok
              go_wp2
              go_roundw
              case rel => exact ⟨k + 1, t, d, monthI tk, y, r, monthI tk, [h0, m0, s0], A2, c2, by go_num, by omega, rfl, rfl, .inr ⟨rfl, hq2⟩, rfl, rfl, hrt4, .inr ⟨h0, m0, s0, rfl, hb01, hb02, hb03, ht1, hr1⟩, hok2, hrd4', hbel4, hst.out⟩
              case measure => simp [intOf]; omega
            · have E2 := Lib.hid (eq_false hq2)
              go_wp2_with fail
              refine (refMonth_any (S tk) _ hzt2).mono ?_
              rintro e w3 ⟨rfl, hb3⟩
              rw [S_toList]
              have hrt3 := hrt2.below hb3
              have hrd3' := hrd2.below hb3
              have hbel3 := bel_call hbel2 hb3
              have hck3 : w3.cell? ⟨b, off + k, none⟩ = some (.string (S tk)) := (hb3.cell (p := ⟨b, off + k, none⟩) hbl2).trans hck2
              have hbl3 : b < w3.heap.size := Nat.lt_of_lt_of_le hbl2 hb3.size
              clear hrt2 hrd2 hbel2 hck2 hbl2 hb3
              by_cases g3 : y < 0
              · have e3 := Lib.hid (eq_true g3)
                cases hq3 : digitsB tk 2 4 with
                | true =>
                  have hq3H := Lib.hid hq3
                  go_wp2_with fail
                  refine (refDigits7_any (S tk) 2 4 _ hzt).mono ?_
                  rintro e w' ⟨rfl, rfl⟩
                  rw [S_toList, hq3H.out]
                  go_wp2_with fail
                  refine (value_any (S tk) _ hzt).mono ?_
                  rintro e w' ⟨rfl, rfl⟩
                  rw [S_toList]
                  have hT := Lib.hid (show (if t < 0 ∧ (clockT tk).isSome = true then Fd.mk (clkR tk).1 d m y (clkR tk).2 else if d < 0 ∧ digitsB tk 1 2 = true then Fd.mk t (valueI tk) m y r else if m < 0 ∧ 0 < monthI tk then Fd.mk t d (monthI tk) y r else if y < 0 ∧ digitsB tk 2 4 = true then Fd.mk t d m (valueI tk) r else Fd.mk t d m y r) = ⟨t, d, m, valueI tk, r⟩ by simp [e0.out, e1.out, E2.out, e3.out, hq3])
                  replace hst := Lib.hid (hst.out.trans (congrArg (fun z => List.foldl tokStep z ((tokensL s.toList).drop (k + 1))) hT.out))
                  have hok2 := hok
                  replace hok2 : FdOk ⟨t, d, m, valueI tk, r⟩ := by have e := hT.out; rw [← e]; exact hok
                  clear hT hok
                  go_wp2
                  go_roundw
                  case rel => exact ⟨k + 1, t, d, m, valueI tk, r, 0, [h0, m0, s0], A2, c2, by go_num, by omega, rfl, rfl, .inl ⟨g2, rfl⟩, rfl, rfl, hrt3, .inr ⟨h0, m0, s0, rfl, hb01, hb02, hb03, ht1, hr1⟩, hok2, hrd3', hbel3, hst.out⟩
                  case measure => simp [intOf]; omega
                | false =>
                  have hq3H := Lib.hid hq3
                  go_wp2_with fail
                  refine (refDigits7_any (S tk) 2 4 _ hzt).mono ?_
                  rintro e w' ⟨rfl, rfl⟩
                  rw [S_toList, hq3H.out]
                  have hT := Lib.hid (show (if t < 0 ∧ (clockT tk).isSome = true then Fd.mk (clkR tk).1 d m y (clkR tk).2 else if d < 0 ∧ digitsB tk 1 2 = true then Fd.mk t (valueI tk) m y r else if m < 0 ∧ 0 < monthI tk then Fd.mk t d (monthI tk) y r else if y < 0 ∧ digitsB tk 2 4 = true then Fd.mk t d m (valueI tk) r else Fd.mk t d m y r) = ⟨t, d, m, y, r⟩ by simp [e0.out, e1.out, E2.out, hq3])
                  replace hst := Lib.hid (hst.out.trans (congrArg (fun z => List.foldl tokStep z ((tokensL s.toList).drop (k + 1))) hT.out))
                  have hok2 := hok
                  replace hok2 : FdOk ⟨t, d, m, y, r⟩ := by have e := hT.out; rw [← e]; exact hok
                  clear hT hok
                  go_wp2
                  go_roundw
                  case rel => exact ⟨k + 1, t, d, m, y, r, 0, [h0, m0, s0], A2, c2, by go_num, by omega, rfl, rfl, .inl ⟨g2, rfl⟩, rfl, rfl, hrt3, .inr ⟨h0, m0, s0, rfl, hb01, hb02, hb03, ht1, hr1⟩, hok2, hrd3', hbel3, hst.out⟩
                  case measure => simp [intOf]; omega
              · have e3 := Lib.hid (eq_false g3)
                have hT := Lib.hid (show (if t < 0 ∧ (clockT tk).isSome = true then Fd.mk (clkR tk).1 d m y (clkR tk).2 else if d < 0 ∧ digitsB tk 1 2 = true then Fd.mk t (valueI tk) m y r else if m < 0 ∧ 0 < monthI tk then Fd.mk t d (monthI tk) y r else if y < 0 ∧ digitsB tk 2 4 = true then Fd.mk t d m (valueI tk) r else Fd.mk t d m y r) = ⟨t, d, m, y, r⟩ by simp [e0.out, e1.out, E2.out, e3.out])
                replace hst := Lib.hid (hst.out.trans (congrArg (fun z => List.foldl tokStep z ((tokensL s.toList).drop (k + 1))) hT.out))
                have hok2 := hok
                replace hok2 : FdOk ⟨t, d, m, y, r⟩ := by have e := hT.out; rw [← e]; exact hok
                clear hT hok
                go_wp2
                go_roundw
                case rel => exact ⟨k + 1, t, d, m, y, r, 0, [h0, m0, s0], A2, c2, by go_num, by omega, rfl, rfl, .inl ⟨g2, rfl⟩, rfl, rfl, hrt3, .inr ⟨h0, m0, s0, rfl, hb01, hb02, hb03, ht1, hr1⟩, hok2, hrd3', hbel3, hst.out⟩
                case measure => simp [intOf]; omega
          · subst g2
            have e2 := Lib.hid (show (m < 0) = False from eq_false (by omega))
            have hz0 : (m == 0) = false := beq_eq_false_iff_ne.2 (by omega)
            by_cases g3 : y < 0
            · have e3 := Lib.hid (eq_true g3)
              cases hq3 : digitsB tk 2 4 with
              | true =>
                have hq3H := Lib.hid hq3
                go_wp2_with fail
                refine (refDigits7_any (S tk) 2 4 _ hzt).mono ?_
                rintro e w' ⟨rfl, rfl⟩
                rw [S_toList, hq3H.out]
                go_wp2_with fail
                refine (value_any (S tk) _ hzt).mono ?_
                rintro e w' ⟨rfl, rfl⟩
                rw [S_toList]
                have hT := Lib.hid (show (if t < 0 ∧ (clockT tk).isSome = true then Fd.mk (clkR tk).1 d m y (clkR tk).2 else if d < 0 ∧ digitsB tk 1 2 = true then Fd.mk t (valueI tk) m y r else if m < 0 ∧ 0 < monthI tk then Fd.mk t d (monthI tk) y r else if y < 0 ∧ digitsB tk 2 4 = true then Fd.mk t d m (valueI tk) r else Fd.mk t d m y r) = ⟨t, d, m, valueI tk, r⟩ by simp [e0.out, e1.out, e2.out, e3.out, hq3])
                replace hst := Lib.hid (hst.out.trans (congrArg (fun z => List.foldl tokStep z ((tokensL s.toList).drop (k + 1))) hT.out))
                have hok2 := hok
                replace hok2 : FdOk ⟨t, d, m, valueI tk, r⟩ := by have e := hT.out; rw [← e]; exact hok
                clear hT hok
                go_wp2
                go_roundw
                case rel => exact ⟨k + 1, t, d, m, valueI tk, r, m, [h0, m0, s0], A2, c2, by go_num, by omega, rfl, rfl, .inr ⟨rfl, g2m⟩, rfl, rfl, hrt2, .inr ⟨h0, m0, s0, rfl, hb01, hb02, hb03, ht1, hr1⟩, hok2, hrd2, hbel2, hst.out⟩
                case measure => simp [intOf]; omega
              | false =>
                have hq3H := Lib.hid hq3
                go_wp2_with fail
                refine (refDigits7_any (S tk) 2 4 _ hzt).mono ?_
                rintro e w' ⟨rfl, rfl⟩
                rw [S_toList, hq3H.out]
                have hT := Lib.hid (show (if t < 0 ∧ (clockT tk).isSome = true then Fd.mk (clkR tk).1 d m y (clkR tk).2 else if d < 0 ∧ digitsB tk 1 2 = true then Fd.mk t (valueI tk) m y r else if m < 0 ∧ 0 < monthI tk then Fd.mk t d (monthI tk) y r else if y < 0 ∧ digitsB tk 2 4 = true then Fd.mk t d m (valueI tk) r else Fd.mk t d m y r) = ⟨t, d, m, y, r⟩ by simp [e0.out, e1.out, e2.out, hq3])
                replace hst := Lib.hid (hst.out.trans (congrArg (fun z => List.foldl tokStep z ((tokensL s.toList).drop (k + 1))) hT.out))
                have hok2 := hok
                replace hok2 : FdOk ⟨t, d, m, y, r⟩ := by have e := hT.out; rw [← e]; exact hok
                clear hT hok
                go_wp2
                go_roundw
                case rel => exact ⟨k + 1, t, d, m, y, r, m, [h0, m0, s0], A2, c2, by go_num, by omega, rfl, rfl, .inr ⟨rfl, g2m⟩, rfl, rfl, hrt2, .inr ⟨h0, m0, s0, rfl, hb01, hb02, hb03, ht1, hr1⟩, hok2, hrd2, hbel2, hst.out⟩
                case measure => simp [intOf]; omega
            · have e3 := Lib.hid (eq_false g3)
              have hT := Lib.hid (show (if t < 0 ∧ (clockT tk).isSome = true then Fd.mk (clkR tk).1 d m y (clkR tk).2 else if d < 0 ∧ digitsB tk 1 2 = true then Fd.mk t (valueI tk) m y r else if m < 0 ∧ 0 < monthI tk then Fd.mk t d (monthI tk) y r else if y < 0 ∧ digitsB tk 2 4 = true then Fd.mk t d m (valueI tk) r else Fd.mk t d m y r) = ⟨t, d, m, y, r⟩ by simp [e0.out, e1.out, e2.out, e3.out])
              replace hst := Lib.hid (hst.out.trans (congrArg (fun z => List.foldl tokStep z ((tokensL s.toList).drop (k + 1))) hT.out))
              have hok2 := hok
              replace hok2 : FdOk ⟨t, d, m, y, r⟩ := by have e := hT.out; rw [← e]; exact hok
              clear hT hok
              go_wp2
              go_roundw
              case rel => exact ⟨k + 1, t, d, m, y, r, m, [h0, m0, s0], A2, c2, by go_num, by omega, rfl, rfl, .inr ⟨rfl, g2m⟩, rfl, rfl, hrt2, .inr ⟨h0, m0, s0, rfl, hb01, hb02, hb03, ht1, hr1⟩, hok2, hrd2, hbel2, hst.out⟩
              case measure => simp [intOf]; omega
    · have hkn : k = (tokensL s.toList).length := by omega
      have hF := Lib.hid (show dateT s.toList = parseD ⟨t, d, m, y, r⟩ from congrArg parseD (hin.out.trans (by rw [hkn, List.drop_length]; rfl)))
      have hni : decide ((k : Int) < (tokensL s.toList).length) = false := decide_eq_false (by omega)
      clear hin hrd
      rcases htm with ⟨rfl, ht1, hr1⟩ | ⟨h0, m0, s0, rfl, hb01, hb02, hb03, ht1, hr1⟩
      · simp only at ht1 hr1
        have h1 : ¬ 0 ≤ t := by omega
        have hE := Lib.hid (show dateT s.toList = (0, 1) from hF.out.trans (if_pos (by simp [fdFull, h1])))
        clear hF
        go_wp2
        go_ret2
        rw [hE.out]
        exact ⟨rfl, hbel⟩
      · simp only at ht1 hr1
        obtain ⟨b2, off2, rfl, hbl2, hc2⟩ := hrt.at_ (by simp)
        have hq0 : wr.cell? ⟨b2, off2, none⟩ = some (.int .i64 h0) := hc2 0 (by simp)
        have hq1 : wr.cell? ⟨b2, off2 + 1, none⟩ = some (.int .i64 m0) := hc2 1 (by simp)
        have hq2 : wr.cell? ⟨b2, off2 + 2, none⟩ = some (.int .i64 s0) := hc2 2 (by simp)
        clear hc2 hrt
        have h1 : 0 ≤ t := by omega
        by_cases h2 : 0 ≤ d
        · rcases hmm with ⟨g2, g2m⟩ | ⟨g2, g2m⟩
          · subst g2m
            have h3 : ¬ 0 ≤ m := by omega
            have hE := Lib.hid (show dateT s.toList = (0, 1) from hF.out.trans (if_pos (by simp [fdFull, h1, h2, h3])))
            clear hF
            go_wp2
            go_ret2
            rw [hE.out]
            exact ⟨rfl, hbel⟩
          · subst g2
            have h3 : 0 ≤ m := by omega
            have hz0 : (m == 0) = false := beq_eq_false_iff_ne.2 (by omega)
            by_cases h4 : 0 ≤ y
            · by_cases k1 : h0 < 24
              · by_cases k2 : m0 < 60
                · by_cases k3 : s0 < 60
                  · have hrr : r = true := by rw [hr1]; simp [k1, k2, k3]
                    have hfl := Lib.hid (show fdFull ⟨t, d, m, y, r⟩ = true by simp [fdFull, h1, h2, h3, h4])
                    have hF2 := Lib.hid (show dateT s.toList = if rightB (fullI y) m d then (daysI (fullI y) m d * 86400 + t, 0) else (0, 1) from hF.out.trans (by unfold parseD; rw [hfl.out, hrr]; rfl))
                    have hfull : (y < 70 ∧ fullI y = y + 2000) ∨ (¬ y < 70 ∧ y < 100 ∧ fullI y = y + 1900) ∨ (¬ y < 70 ∧ ¬ y < 100 ∧ fullI y = y) := by
                      unfold fullI
                      by_cases c1 : y < 70
                      · exact .inl ⟨c1, if_pos c1⟩
                      · by_cases c2 : y < 100
                        · exact .inr (.inl ⟨c1, c2, by rw [if_neg c1, if_pos c2]⟩)
                        · exact .inr (.inr ⟨c1, c2, by rw [if_neg c1, if_neg c2]⟩)
                    clear hF hfl hrr hr1
                    have hab : ∀ {B : Nat}, b2 < wr.heap.size := hbl2
                    clear hab
                    rcases hfull with ⟨c1, hfe⟩ | ⟨c1, c2, hfe⟩ | ⟨c1, c2, hfe⟩
                    all_goals
                      rw [hfe] at hF2
                      clear hfe
                      cases hR : rightB _ m d with
                      | true =>
                        have hRH := Lib.hid hR
                        have hE := Lib.hid (hF2.out.trans (if_pos hR))
                        obtain ⟨D, hDe, hD1, hD2⟩ := days_split hR
                        have hde := Lib.hid ((refDays_eq hR).trans hDe)
                        rw [hDe] at hE
                        clear hDe
                        have q1 : IntKind.i64.wrap (D * 86400) = D * 86400 := IntWalk.i64_in _ (by omega)
                        have q2 : IntKind.i64.wrap (h0 * 3600) = h0 * 3600 := IntWalk.i64_in _ (by omega)
                        have q3 : IntKind.i64.wrap (D * 86400 + h0 * 3600) = D * 86400 + h0 * 3600 := IntWalk.i64_in _ (by omega)
                        have q4 : IntKind.i64.wrap (m0 * 60) = m0 * 60 := IntWalk.i64_in _ (by omega)
                        have q5 : IntKind.i64.wrap (D * 86400 + h0 * 3600 + m0 * 60) = D * 86400 + h0 * 3600 + m0 * 60 := IntWalk.i64_in _ (by omega)
                        have q6 : IntKind.i64.wrap (D * 86400 + h0 * 3600 + m0 * 60 + s0) = D * 86400 + h0 * 3600 + m0 * 60 + s0 := IntWalk.i64_in _ (by omega)
                        have q7 := Lib.hid (show D * 86400 + h0 * 3600 + m0 * 60 + s0 = D * 86400 + t by omega)
                        clear hF2
                        go_wp2_with fail
                        refine (refRight7_any _ m d _).mono ?_
                        rintro e w2 ⟨rfl, hb2⟩
                        rw [hRH.out]
                        have hbel2 := bel_call hbel hb2
                        have hS : w2.cell? ⟨b2, off2, none⟩ = some (.int .i64 h0) ∧ w2.cell? ⟨b2, off2 + 1, none⟩ = some (.int .i64 m0) ∧ w2.cell? ⟨b2, off2 + 2, none⟩ = some (.int .i64 s0) ∧ b2 < w2.heap.size ∧ Below w.heap.size w w2 :=
                          ⟨(hb2.cell (p := ⟨b2, off2, none⟩) hbl2).trans hq0, (hb2.cell (p := ⟨b2, off2 + 1, none⟩) hbl2).trans hq1, (hb2.cell (p := ⟨b2, off2 + 2, none⟩) hbl2).trans hq2, Nat.lt_of_lt_of_le hbl2 hb2.size, hbel2⟩
                        clear hq0 hq1 hq2 hbl2 hb2 hbel hbel2
                        go_wp2_with fail
                        go_region_held3 (fun w' => w'.cell? ⟨b2, off2, none⟩ = some (.int .i64 h0) ∧ w'.cell? ⟨b2, off2 + 1, none⟩ = some (.int .i64 m0) ∧ w'.cell? ⟨b2, off2 + 2, none⟩ = some (.int .i64 s0) ∧ b2 < w'.heap.size ∧ Below w.heap.size w w')
                          (first | assumption | exact held_call3 hb (by assumption) | exact held_drew3 (by assumption) | exact held_drew3 (held_call3 hb (by assumption)) | exact held_call3 hb (held_drew3 (by assumption)))
                          (first | (go_at_call 16; refine (refDays_any _ m d _ hR).mono ?_; rintro e w3 ⟨rfl, hb⟩; rw [hde.out]))
                        rename_i hfin
                        replace hfin : Below w.heap.size w w3 := hfin.2.2.2.2
                        go_wp2
                        go_ret2
                        rw [hE.out]
                        exact ⟨by rw [← q7.out]; rfl, hfin⟩
                      | false =>
                        have hRH := Lib.hid hR
                        have hE := Lib.hid (hF2.out.trans (if_neg (by rw [hR]; decide)))
                        clear hF2
                        go_wp2_with fail
                        refine (refRight7_any _ m d _).mono ?_
                        rintro e w2 ⟨rfl, hb2⟩
                        rw [hRH.out]
                        have hbel2 := bel_call hbel hb2
                        go_wp2
                        go_ret2
                        rw [hE.out]
                        exact ⟨rfl, hbel2⟩
                  · have hrr : r = false := by rw [hr1]; simp [k3]
                    have hE := Lib.hid (show dateT s.toList = (0, 1) from hF.out.trans (if_pos (by simp [fdFull, hrr])))
                    clear hF
                    go_wp2
                    go_ret2
                    rw [hE.out]
                    exact ⟨rfl, hbel⟩
                · have hrr : r = false := by rw [hr1]; simp [k2]
                  have hE := Lib.hid (show dateT s.toList = (0, 1) from hF.out.trans (if_pos (by simp [fdFull, hrr])))
                  clear hF
                  go_wp2
                  go_ret2
                  rw [hE.out]
                  exact ⟨rfl, hbel⟩
              · have hrr : r = false := by rw [hr1]; simp [k1]
                have hE := Lib.hid (show dateT s.toList = (0, 1) from hF.out.trans (if_pos (by simp [fdFull, hrr])))
                clear hF
                go_wp2
                go_ret2
                rw [hE.out]
                exact ⟨rfl, hbel⟩
            · have hE := Lib.hid (show dateT s.toList = (0, 1) from hF.out.trans (if_pos (by simp [fdFull, h1, h2, h3, h4])))
              clear hF
              go_wp2
              go_ret2
              rw [hE.out]
              exact ⟨rfl, hbel⟩
        · rcases hmm with ⟨g2, g2m⟩ | ⟨g2, g2m⟩
          all_goals
            have hE := Lib.hid (show dateT s.toList = (0, 1) from hF.out.trans (if_pos (by simp [fdFull, h1, h2])))
            clear hF
            go_wp2
            go_ret2
            rw [hE.out]
            exact ⟨rfl, hbel⟩
end Go.Proofs.YtagiolhciplniaaDoor
