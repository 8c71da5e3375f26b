/-
  Joined texts: Date19 Date20 Attr1 Attr2.
-/
import Derived.Test.YtgfoaopfdpclhaaGreatDoorBu8
import Derived.Deep.RegionHeld3
namespace Go.Proofs.YtgfoaopfdpclhaaGreatDoor
open Go.RowKit
set_option linter.unusedVariables false
set_option maxRecDepth 100000

theorem infoInt : (Tryz.prog.info? 3).map (fun i => (i.zero, i.size, i.bytes)) = some (some (.int .i64 0), 1, 8) := by kernel_rfl
def intV (n : Int) : Value := .int .i64 n
def clkF : Nat → List UInt8 → List Int → Option (List Int)
  | 0, _, acc => some acc
  | r + 1, l, acc =>
    if digitsB l 1 2 then
      if decide (r = 0) || colB (l.drop (digN l)) then clkF r ((l.drop (digN l)).drop 1) (acc ++ [valueI l]) else none
    else none
def timeL (l : List UInt8) : Option (List Int) := clkF 3 l []
theorem field_dig {l : List UInt8} (h : digitsB l 1 2 = true) : fieldT l 1 2 = (valueI l, l.drop (digN l), true) := by
  unfold fieldT
  unfold digitsB at h
  simp only [Bool.and_eq_true, decide_eq_true_eq] at h
  rw [if_neg (by omega)]; rfl
theorem field_nod {l : List UInt8} (h : digitsB l 1 2 = false) : (fieldT l 1 2).2.2 = false := by rw [digits_field]; exact h
theorem value_bd {l : List UInt8} (h : digitsB l 1 2 = true) : 0 ≤ valueI l ∧ valueI l ≤ 99 := by
  have e := field_dig h
  have := field_bd (l := l) (by rw [e])
  rw [e] at this
  exact this
theorem value_bd4 {l : List UInt8} (h : digitsB l 2 4 = true) : 0 ≤ valueI l ∧ valueI l ≤ 9999 := by
  have hf : (fieldT l 2 4).2.2 = true := by rw [digits_field]; exact h
  have := field_bd4 hf
  obtain ⟨_, _, e, _⟩ := field_eq hf
  rw [e] at this
  exact this
theorem clkF_no {r : Nat} {l : List UInt8} {acc : List Int} (h : digitsB l 1 2 = false) : clkF (r + 1) l acc = none := by
  rw [clkF, if_neg (by rw [h]; decide)]
theorem clkF_col {r : Nat} {l : List UInt8} {acc : List Int} (hr : r ≠ 0) (h : colB (l.drop (digN l)) = false) : clkF (r + 1) l acc = none := by
  rw [clkF]
  split
  · rw [if_neg (by rw [h]; simp [hr])]
  · rfl
theorem clkF_go {r : Nat} {l : List UInt8} {acc : List Int} (h : digitsB l 1 2 = true) (hr : r = 0 ∨ colB (l.drop (digN l)) = true) : clkF (r + 1) l acc = clkF r ((l.drop (digN l)).drop 1) (acc ++ [valueI l]) := by
  rw [clkF, if_pos h, if_pos (by rcases hr with h | h <;> simp [h])]

/-- A clock, told twice. -/
theorem clock_time (l : List UInt8) : (timeL l = none ∧ clockT l = none) ∨
    (∃ h m s, timeL l = some [h, m, s] ∧ (0 ≤ h ∧ h ≤ 99) ∧ (0 ≤ m ∧ m ≤ 99) ∧ (0 ≤ s ∧ s ≤ 99) ∧ clockT l = some (h * 3600 + m * 60 + s, decide (h < 24) && decide (m < 60) && decide (s < 60))) := by
  unfold timeL clockT
  have key : ∀ (r : Nat) (l : List UInt8) (o : Int) (rt : Bool) (acc : List Int), (clkF (r + 1) l acc = none ∧ clkGo (r + 1) l o rt = none) ∨
      (∃ R, digitsB l 1 2 = true ∧ clkF (r + 1) l acc = clkF r R (acc ++ [valueI l]) ∧ clkGo (r + 1) l o rt = clkGo r R (o * 60 + valueI l) (rt && decide (valueI l < 60) && (decide (r < 2) || decide (valueI l < 24)))) := by
    intro r l o rt acc
    cases hd : digitsB l 1 2
    · exact .inl ⟨clkF_no hd, clk_no (field_nod hd)⟩
    · have e := field_dig hd
      by_cases hr : r = 0
      · exact .inr ⟨_, rfl, clkF_go hd (.inl hr), by rw [clk_go (by rw [e]) (.inl hr), e]⟩
      · cases hc : colB (l.drop (digN l))
        · exact .inl ⟨clkF_col hr hc, clk_col hr (by rw [e]; exact hc)⟩
        · exact .inr ⟨_, rfl, clkF_go hd (.inr hc), by rw [clk_go (by rw [e]) (.inr (by rw [e]; exact hc)), e]⟩
  rcases key 2 l 0 true [] with h | ⟨R1, d1, e1, g1⟩
  · exact .inl h
  rw [e1, g1]
  rcases key 1 R1 _ _ _ with h | ⟨R2, d2, e2, g2⟩
  · exact .inl h
  rw [e2, g2]
  rcases key 0 R2 _ _ _ with h | ⟨R3, d3, e3, g3⟩
  · exact .inl h
  rw [e3, g3, clkF, clkGo]
  have b1 := value_bd d1
  have b2 := value_bd d2
  have b3 := value_bd d3
  generalize valueI l = h at *
  generalize valueI R1 = m at *
  generalize valueI R2 = s at *
  refine .inr ⟨h, m, s, rfl, b1, b2, b3, ?_⟩
  congr 2
  · omega
  · by_cases c1 : h < 24
    · have c2 : h < 60 := by omega
      simp [c1, c2]
    · simp [c1]

set_option maxRecDepth 4000 in
set_option maxHeartbeats 4000000 in
theorem refTime_any (s : ByteArray) (w : World) (hs : s.size ≤ 4294967296) :
    Calls Tryz.prog 91 #[.string s] w fun e w' => ∃ A cp, e = .returned (.tuple #[.slice A ((timeL s.toList).getD []).length cp, .bool (timeL s.toList).isSome]) ∧
      w'.ownsRow w.heap.size 3 1 (.slice A ((timeL s.toList).getD []).length cp) ((timeL s.toList).getD []).length (((timeL s.toList).getD []).map intV) ∧ Below w.heap.size w w' := by
  rw [← S_of s]
  have hl0 : s.toList.length ≤ 4294967296 := by rw [← size_toList]; exact hs
  rw [S_toList]
  generalize s.toList = l0 at *
  clear hs
  obtain ⟨i0, hi, hz0, hz1, hz2⟩ := info_parts infoInt
  go_enter Tryz.func91, Tryz.ntmps91
  go_wp2
  go_loopw [0, 4, 5] (fun vs v vk wr => ∃ (r : Nat) (l : List UInt8) (acc : List Int), vs = .string (S l) ∧ vk = .int .i64 (3 - (r : Int)) ∧ (r = 1 ∨ r = 2 ∨ r = 3) ∧ l.length ≤ 4294967296 ∧ acc.length + r = 3 ∧ wr.ownsRow w.heap.size 3 1 v acc.length (acc.map intV) ∧ Below w.heap.size w wr ∧ w.heap.size ≤ wr.heap.size ∧ Hid (timeL l0 = clkF r l acc)) (fun _ _ k _ => (3 - intOf k).toNat)
  case atStart => exact ⟨3, l0, [], rfl, rfl, .inr (.inr rfl), hl0, rfl, World.ownsRow_lit w #[] 0 (Nat.le_refl _) (by unfold maxLen; omega) rfl, (Below.refl _ _).alloc (Nat.le_refl _) _, by simp, rfl⟩
  case round =>
    obtain ⟨r, l, acc, rfl, rfl, hr, hll, hal, hown, hbel, hsz, hch⟩ := hrel
    clear hl0
    have hz : (S l).size ≤ maxLen := by rw [S_size]; unfold maxLen; omega
    have hrb : (1 : Int) ≤ r ∧ (r : Int) ≤ 3 := by omega
    obtain ⟨hrb1, hrb2⟩ := hrb
    obtain ⟨r', rfl⟩ : ∃ r', r = r' + 1 := ⟨r - 1, by omega⟩
    cases hd : digitsB l 1 2 with
    | false =>
      have hno := Lib.hid (hch.out.trans (clkF_no hd))
      have hD := Lib.hid hd
      clear hd hch
      go_wp2_with fail
      refine (refDigits7_any (S l) 1 2 _ hz).mono ?_
      rintro e w' ⟨rfl, rfl⟩
      rw [S_toList, hD.out]
      go_wp2
      go_ret2
      rw [hno.out]
      exact ⟨none, 0, rfl, World.ownsRow_nil _ _ _ _, hbel⟩
    | true =>
      have hvb := value_bd hd
      have hdl := digN_le l
      have hD := Lib.hid hd
      have hx1 := Lib.hid (show (S l).extract (digN l + 1) l.length = S ((l.drop (digN l)).drop 1) by
        rw [show l.length = (S l).size from (S_size l).symm, extract_from, S_toList, List.drop_drop])
      have h2 := Lib.hid (fun (h : r' ≠ 0) (h' : colB (l.drop (digN l)) = false) => hch.out.trans (clkF_col h h'))
      have h3 := Lib.hid (fun (h : r' = 0 ∨ colB (l.drop (digN l)) = true) => hch.out.trans (clkF_go hd h))
      have hg0 := Lib.hid (fun (h : digN l < (S l).size) => get_l (S l) (digN l) h)
      have hcol := Lib.hid (show colB (l.drop (digN l)) = (decide (digN l < l.length) && (l.getD (digN l) 0 == 58)) by
        by_cases hlt : digN l < l.length
        · rw [drop_getD l _ hlt, colB_cons, decide_eq_true hlt, Bool.true_and]
        · rw [List.drop_of_length_le (by omega), decide_eq_false hlt]; rfl)
      clear hd hch
      go_wp2_with fail
      refine (refDigits7_any (S l) 1 2 _ hz).mono ?_
      rintro e w' ⟨rfl, rfl⟩
      rw [S_toList, hD.out]
      go_wp2_with fail
      refine (refDigits_any (S l) _ hz).mono ?_
      rintro e w' ⟨rfl, rfl⟩
      rw [S_toList]
      go_wp2_with fail
      refine (value_any (S l) _ hz).mono ?_
      rintro e w' ⟨rfl, rfl⟩
      rw [S_toList]
      generalize valueI l = n at *
      go_wp2_with (first
        | (at_builtin; refine wpList_push rfl _ _ 104 rfl w.heap.size 3 i0 (.int .i64 0) 1 8 Tryz.underlying104 hi hz0 hz1 hz2 rfl (by decide) _ _ _ rfl hown _ _ rfl rfl rfl ?c1 ?c2 ?c3 hsz hbel ?_))
      case c1 => exact rfl
      case c2 => unfold maxLen; omega
      case c3 => omega
      intro v' w' hown' hg hbel' hsz2
      replace hown' : w'.ownsRow w.heap.size 3 1 v' (acc ++ [n]).length ((acc ++ [n]).map intV) := by
        rw [List.map_append, List.length_append]; exact hown'
      clear hown hbel hg
      generalize digN l = dn at *
      by_cases hr0 : r' = 0
      · subst hr0
        have hsome := Lib.hid ((h3.out (.inl rfl)).trans (show clkF 0 _ _ = some (acc ++ [n]) from rfl))
        clear h2 h3 hg0 hcol hx1
        obtain ⟨A, cp, rfl⟩ := own_form hown'
        go_wp2
        go_ret2
        rw [hsome.out]
        have hl3 : (acc ++ [n]).length = 3 := by simp; omega
        refine ⟨A, cp, ?_, hown', hbel'⟩
        show _ = Ending.returned (Value.tuple #[Value.slice A (acc ++ [n]).length cp, _])
        rw [hl3]
        rfl
      · have hr1 : ((3 : Int) - ((r' + 1 : Nat) : Int) == 2) = false := beq_eq_false_iff_ne.2 (by omega)
        by_cases hlt : dn < l.length
        · have hlt2 : dn < (S l).size := by rw [S_size]; exact hlt
          have hb0 := Lib.hid (hg0.out hlt2)
          have hne1 : ((l.length : Int) == dn) = false := beq_eq_false_iff_ne.2 (by omega)
          have hlti : (dn : Int) < l.length := by omega
          have hlti2 : (dn : Int) + 1 ≤ l.length := by omega
          rw [decide_eq_true hlt, Bool.true_and] at hcol
          cases h58 : (l.getD dn 0 == 58) with
          | false =>
            have hno := Lib.hid (h2.out hr0 (hcol.out.trans h58))
            have hx : (((S l)[dn].toNat : Int) != 58) = true := by rw [nec (i := 58) 58 rfl, hb0.out, S_toList, h58]; rfl
            clear h2 h3 hg0 hcol hx1 h58
            go_wp2
            go_ret2
            rw [hno.out]
            exact ⟨none, 0, rfl, World.ownsRow_nil _ _ _ _, hbel'⟩
          | true =>
            have hgo := Lib.hid (h3.out (.inr (hcol.out.trans h58)))
            have hx : (((S l)[dn].toNat : Int) != 58) = false := by rw [nec (i := 58) 58 rfl, hb0.out, S_toList, h58]; rfl
            clear h2 h3 hg0 hcol h58
            go_wp2
            rw [hx1.out]
            go_roundw
            case rel => exact ⟨r', (l.drop dn).drop 1, acc ++ [n], rfl, by congr 1; omega, by omega, by simp; omega, by simp; omega, hown', hbel', hsz2, hgo.out⟩
            case measure => simp [intOf]; omega
        · have hno := Lib.hid (h2.out hr0 (hcol.out.trans (by rw [decide_eq_false hlt]; rfl)))
          have hne1 : ((l.length : Int) == dn) = true := by rw [beq_iff_eq]; omega
          clear h2 h3 hg0 hcol hx1
          go_wp2
          go_ret2
          rw [hno.out]
          exact ⟨none, 0, rfl, World.ownsRow_nil _ _ _ _, hbel'⟩
end Go.Proofs.YtgfoaopfdpclhaaGreatDoor
namespace Go.Proofs.YtgfoaopfdpclhaaGreatDoor
open Go.RowKit
set_option linter.unusedVariables false
set_option maxRecDepth 100000

theorem tokStep_ref (f : Fd) (l : List UInt8) : tokStep f l =
    if f.t < 0 ∧ (clockT l).isSome = true then { f with t := (clkR l).1, r := (clkR l).2 }
    else if f.d < 0 ∧ digitsB l 1 2 = true then { f with d := valueI l }
    else if f.m < 0 ∧ 0 < monthI l then { f with m := monthI l }
    else if f.y < 0 ∧ digitsB l 2 4 = true then { f with y := valueI l }
    else f := by
  unfold tokStep
  rw [digits_field, digits_field]
  have e1 : digitsB l 1 2 = true → (fieldT l 1 2).1 = valueI l := fun h => by rw [field_dig h]
  have e2 : digitsB l 2 4 = true → (fieldT l 2 4).1 = valueI l := fun h => by
    obtain ⟨_, _, e, _⟩ := field_eq (l := l) (a := 2) (b := 4) (by rw [digits_field]; exact h)
    exact e
  by_cases h1 : f.t < 0 ∧ (clockT l).isSome = true
  · rw [if_pos h1, if_pos h1]
  · rw [if_neg h1, if_neg h1]
    by_cases h2 : f.d < 0 ∧ digitsB l 1 2 = true
    · rw [if_pos h2, if_pos h2, e1 h2.2]
    · rw [if_neg h2, if_neg h2]
      by_cases h3 : f.m < 0 ∧ 0 < monthI l
      · rw [if_pos h3, if_pos h3]
      · rw [if_neg h3, if_neg h3]
        by_cases h4 : f.y < 0 ∧ digitsB l 2 4 = true
        · rw [if_pos h4, if_pos h4, e2 h4.2]
        · rw [if_neg h4, if_neg h4]
/-- The reference's times and the program's. -/
def TmOk (tm : List Int) (f : Fd) : Prop := (tm = [] ∧ f.t = -1 ∧ f.r = true) ∨ (∃ h m s, tm = [h, m, s] ∧ (0 ≤ h ∧ h ≤ 99) ∧ (0 ≤ m ∧ m ≤ 99) ∧ (0 ≤ s ∧ s ≤ 99) ∧ f.t = h * 3600 + m * 60 + s ∧ f.r = (decide (h < 24) && decide (m < 60) && decide (s < 60)))
theorem tm_some {tk : List UInt8} (h : (timeL tk).isSome = true) (f : Fd) : (clockT tk).isSome = true ∧ TmOk ((timeL tk).getD []) { f with t := (clkR tk).1, r := (clkR tk).2 } := by
  rcases clock_time tk with ⟨e, _⟩ | ⟨a, b, c, e, h1, h2, h3, e2⟩
  · rw [e] at h; cases h
  · obtain ⟨q1, q2⟩ := clkR_some e2
    rw [e, q1]
    exact ⟨q2, .inr ⟨a, b, c, rfl, h1, h2, h3, rfl, rfl⟩⟩
theorem tm_none {tk : List UInt8} (h : (timeL tk).isSome = false) : (clockT tk).isSome = false := by
  rcases clock_time tk with ⟨_, e⟩ | ⟨a, b, c, e, _⟩
  · rw [e]; rfl
  · rw [e] at h; cases h

theorem days_split {y m d : Int} (h : rightB y m d = true) : ∃ D, daysI y m d = D ∧ -10000000 ≤ D ∧ D ≤ 10000000 := ⟨_, rfl, days_bd h⟩
theorem held_call3 {W w w' : World} {g o : Nat} {x y z : Value} (hb : Below w.heap.size w w') (h : w.cell? ⟨g, o, none⟩ = some x ∧ w.cell? ⟨g, o + 1, none⟩ = some y ∧ w.cell? ⟨g, o + 2, none⟩ = some z ∧ g < w.heap.size ∧ Below W.heap.size W w) :
    w'.cell? ⟨g, o, none⟩ = some x ∧ w'.cell? ⟨g, o + 1, none⟩ = some y ∧ w'.cell? ⟨g, o + 2, none⟩ = some z ∧ g < w'.heap.size ∧ Below W.heap.size W w' :=
  ⟨(hb.cell (p := ⟨g, o, none⟩) h.2.2.2.1).trans h.1, (hb.cell (p := ⟨g, o + 1, none⟩) h.2.2.2.1).trans h.2.1, (hb.cell (p := ⟨g, o + 2, none⟩) h.2.2.2.1).trans h.2.2.1, Nat.lt_of_lt_of_le h.2.2.2.1 hb.size, bel_call h.2.2.2.2 hb⟩
theorem held_drew3 {W w : World} {g o : Nat} {x y z : Value} (h : w.cell? ⟨g, o, none⟩ = some x ∧ w.cell? ⟨g, o + 1, none⟩ = some y ∧ w.cell? ⟨g, o + 2, none⟩ = some z ∧ g < w.heap.size ∧ Below W.heap.size W w) :
    w.drew.cell? ⟨g, o, none⟩ = some x ∧ w.drew.cell? ⟨g, o + 1, none⟩ = some y ∧ w.drew.cell? ⟨g, o + 2, none⟩ = some z ∧ g < w.drew.heap.size ∧ Below W.heap.size W w.drew := ⟨h.1, h.2.1, h.2.2.1, h.2.2.2.1, h.2.2.2.2.drew⟩
/-- The relation at the head of the reference's loop. -/
def RpRel (l : List UInt8) (W : World) (A : Option Addr) (cp : Nat) (vt vd vm vy vi : Value) (wr : World) : Prop :=
  ∃ (k : Nat) (t d m y : Int) (r : Bool) (mm : Int) (tm : List Int) (A2 : Option Addr) (c2 : Nat), vi = .int .i64 k ∧ k ≤ (tokensL l).length ∧ vd = .int .i64 d ∧ vm = .int .i64 mm ∧ ((m = -1 ∧ mm = 0) ∨ (m = mm ∧ 1 ≤ mm)) ∧ vy = .int .i64 y ∧
    vt = .slice A2 tm.length c2 ∧ Rd wr 1 (.slice A2 tm.length c2) tm.length (tm.map intV) ∧ TmOk tm ⟨t, d, m, y, r⟩ ∧ FdOk ⟨t, d, m, y, r⟩ ∧ Rd wr 1 (.slice A (tokensL l).length cp) (tokensL l).length ((tokensL l).map strV) ∧ Below W.heap.size W wr ∧
    Hid (fdOf l = ((tokensL l).drop k).foldl tokStep ⟨t, d, m, y, r⟩)

set_option maxRecDepth 4000 in
set_option maxHeartbeats 16000000 in
theorem refParse_any (s : ByteArray) (w : World) (hs : s.size ≤ 4294967296) :
    Calls Tryz.prog 66 #[.string s] w fun e w' => e = .returned (.tuple #[.int .i64 (dateT s.toList).1, .bool (decide ((dateT s.toList).2 = 0))]) ∧ Below w.heap.size w w' := by
  have htl : (tokensL s.toList).length ≤ s.size + 1 := by unfold tokensL; rw [size_toList]; exact tokGo_len _ _
  have htk := Lib.hid (tokens_size s.toList)
  have hlen := Lib.hid (size_toList s)
  go_enter Tryz.func66, Tryz.ntmps66
  go_wp2_with fail
  refine (refTokens_any s _ hs).mono ?_
  rintro e w1 ⟨A, cp, rfl, hown1, hb1⟩
  have hrd1 := (Rd.of_own hown1).alloc (.cells #[] 3)
  have hown2 := World.ownsRow_lit (base := w.heap.size) (e := 3) (size := 1) w1 #[] 0 hb1.size (by unfold maxLen; omega) rfl
  have hrd2 := Rd.of_own hown2
  have hbel1 := bel_alloc hb1 (.cells #[] 3)
  have hnn := Lib.hid (show fdOf s.toList = (((tokensL s.toList).drop 0).foldl tokStep fd0) from rfl)
  clear hown1 hown2 hb1
  go_wp2
  go_loopw [5, 6, 7, 8, 9] (fun vt vd vm vy vi wr => RpRel s.toList w A cp vt vd vm vy vi wr) (fun _ _ _ _ vi _ => (tokensL s.toList).length + 1 - (intOf vi).toNat)
  case atStart => exact ⟨0, -1, -1, -1, -1, true, 0, [], _, _, rfl, by omega, rfl, rfl, .inl ⟨rfl, rfl⟩, rfl, rfl, hrd2, .inl ⟨rfl, rfl, rfl⟩, ⟨by decide, by decide, by decide, by decide⟩, hrd1, hbel1, hnn.out⟩
  case round =>
    clear hbel1 hrd1 hrd2 hnn
    obtain ⟨k, t, d, m, y, r, mm, tm, A2, c2, rfl, hk, rfl, rfl, hmm, rfl, rfl, hrt, htm, hok, hrd, hbel, hin⟩ := hrel
    obtain ⟨hok1, hok2, hok3, hok4⟩ := hok
    simp only at hok1 hok2 hok3 hok4
    by_cases hlt : k < (tokensL s.toList).length
    · have hlti : (k : Int) < (tokensL s.toList).length := by omega
      have hkt : (tokensL s.toList)[k]? = some ((tokensL s.toList).getD k []) := by rw [List.getD_eq_getElem?_getD, List.getElem?_eq_getElem hlt]; rfl
      have hts : ((tokensL s.toList).getD k []).length ≤ s.size := by rw [hlen.out]; exact htk.out _ (List.mem_of_getElem? hkt)
      have hst := Lib.hid (show fdOf s.toList = (((tokensL s.toList).drop (k + 1)).foldl tokStep (tokStep ⟨t, d, m, y, r⟩ ((tokensL s.toList).getD k []))) by
        rw [hin.out, List.drop_eq_getElem_cons hlt, List.foldl_cons, List.getD_eq_getElem?_getD, List.getElem?_eq_getElem hlt]; rfl)
      have hok := fd_step (f := ⟨t, d, m, y, r⟩) ⟨hok1, hok2, hok3, hok4⟩ ((tokensL s.toList).getD k [])
      obtain ⟨b, off, rfl, hbl, hc⟩ := hrd.at_ (by omega)
      have hck := hc k (by simpa using hlt)
      rw [List.getElem?_map, hkt] at hck
      replace hck : wr.cell? ⟨b, off + k, none⟩ = some (.string (S ((tokensL s.toList).getD k []))) := hck
      clear hc hkt hin
      generalize (tokensL s.toList).getD k [] = tk at *
      rw [tokStep_ref] at hst hok
      have hzt : (S tk).size ≤ maxLen := by rw [S_size]; unfold maxLen; omega
      have hzt2 : (S tk).size ≤ 4294967296 := by rw [S_size]; omega
      go_wp2_with fail
      refine (refTime_any (S tk) _ hzt2).mono ?_
      rintro e w2 ⟨A3, c3, rfl, hown3, hb2⟩
      rw [S_toList] at hown3 ⊢
      have hrd3 := Rd.of_own hown3
      have hrt2 := hrt.below hb2
      have hrd2 := hrd.below hb2
      have hbel2 := bel_call hbel hb2
      have hck2 : w2.cell? ⟨b, off + k, none⟩ = some (.string (S tk)) := (hb2.cell (p := ⟨b, off + k, none⟩) hbl).trans hck
      have hbl2 : b < w2.heap.size := Nat.lt_of_lt_of_le hbl hb2.size
      clear hown3 hrt hrd hbel hck hbl hb2
      rcases htm with ⟨rfl, ht1, hr1⟩ | ⟨h0, m0, s0, rfl, hb01, hb02, hb03, ht1, hr1⟩
      · simp only at ht1 hr1
        cases hq0 : (timeL tk).isSome with
        | true =>
          have e0 := Lib.hid (show (t < 0) = True from eq_true (by omega))
          obtain ⟨hck0, htmn⟩ := tm_some hq0 ⟨t, d, m, y, r⟩
          have hq0H := Lib.hid hq0
          have hT := Lib.hid (show (if t < 0 ∧ (clockT tk).isSome = true then Fd.mk (clkR tk).1 d m y (clkR tk).2 else if d < 0 ∧ digitsB tk 1 2 = true then Fd.mk t (valueI tk) m y r else if m < 0 ∧ 0 < monthI tk then Fd.mk t d (monthI tk) y r else if y < 0 ∧ digitsB tk 2 4 = true then Fd.mk t d m (valueI tk) r else Fd.mk t d m y r) = ⟨(clkR tk).1, d, m, y, (clkR tk).2⟩ by simp [e0.out, hck0])
          replace hst := Lib.hid (hst.out.trans (congrArg (fun z => List.foldl tokStep z ((tokensL s.toList).drop (k + 1))) hT.out))
          have hok2 := hok
          replace hok2 : FdOk ⟨(clkR tk).1, d, m, y, (clkR tk).2⟩ := by have e := hT.out; rw [← e]; exact hok
          clear hT hok
          go_wp2
          go_roundw
          case rel => exact ⟨k + 1, (clkR tk).1, d, m, y, (clkR tk).2, mm, ((timeL tk).getD []), A3, c3, by go_num, by omega, rfl, rfl, hmm, rfl, rfl, hrd3, htmn, hok2, hrd2, hbel2, hst.out⟩
          case measure => simp [intOf]; omega
        | false =>
          have E0 := Lib.hid (show ((clockT tk).isSome = true) = False from eq_false (by rw [tm_none hq0]; decide))
          by_cases g1 : d < 0
          · have e1 := Lib.hid (eq_true g1)
            cases hq1 : digitsB tk 1 2 with
            | true =>
              have hq1H := Lib.hid hq1
              go_wp2_with fail
              refine (refDigits7_any (S tk) 1 2 _ hzt).mono ?_
              rintro e w' ⟨rfl, rfl⟩
              rw [S_toList, hq1H.out]
              go_wp2_with fail
              refine (value_any (S tk) _ hzt).mono ?_
              rintro e w' ⟨rfl, rfl⟩
              rw [S_toList]
              have hT := Lib.hid (show (if t < 0 ∧ (clockT tk).isSome = true then Fd.mk (clkR tk).1 d m y (clkR tk).2 else if d < 0 ∧ digitsB tk 1 2 = true then Fd.mk t (valueI tk) m y r else if m < 0 ∧ 0 < monthI tk then Fd.mk t d (monthI tk) y r else if y < 0 ∧ digitsB tk 2 4 = true then Fd.mk t d m (valueI tk) r else Fd.mk t d m y r) = ⟨t, valueI tk, m, y, r⟩ by simp [E0.out, e1.out, hq1])
              replace hst := Lib.hid (hst.out.trans (congrArg (fun z => List.foldl tokStep z ((tokensL s.toList).drop (k + 1))) hT.out))
              have hok2 := hok
              replace hok2 : FdOk ⟨t, valueI tk, m, y, r⟩ := by have e := hT.out; rw [← e]; exact hok
              clear hT hok
              go_wp2
              go_roundw
              case rel => exact ⟨k + 1, t, valueI tk, m, y, r, mm, [], A2, c2, by go_num, by omega, rfl, rfl, hmm, rfl, rfl, hrt2, .inl ⟨rfl, ht1, hr1⟩, hok2, hrd2, hbel2, hst.out⟩
              case measure => simp [intOf]; omega
            | false =>
              have hq1H := Lib.hid hq1
              go_wp2_with fail
              refine (refDigits7_any (S tk) 1 2 _ hzt).mono ?_
              rintro e w' ⟨rfl, rfl⟩
              rw [S_toList, hq1H.out]
              rcases hmm with ⟨g2, g2m⟩ | ⟨g2, g2m⟩
              · subst g2m
                have e2 := Lib.hid (show (m < 0) = True from eq_true (by omega))
                by_cases hq2 : 0 < monthI tk
                · have E2 := Lib.hid (eq_true hq2)
                  go_wp2_with fail
                  refine (refMonth_any (S tk) _ hzt2).mono ?_
                  rintro e w3 ⟨rfl, hb3⟩
                  rw [S_toList]
                  have hrt3 := hrt2.below hb3
                  have hrd3' := hrd2.below hb3
                  have hbel3 := bel_call hbel2 hb3
                  have hck3 : w3.cell? ⟨b, off + k, none⟩ = some (.string (S tk)) := (hb3.cell (p := ⟨b, off + k, none⟩) hbl2).trans hck2
                  have hbl3 : b < w3.heap.size := Nat.lt_of_lt_of_le hbl2 hb3.size
                  clear hrt2 hrd2 hbel2 hck2 hbl2 hb3
                  go_wp2_with fail
                  refine (refMonth_any (S tk) _ hzt2).mono ?_
                  rintro e w4 ⟨rfl, hb4⟩
                  rw [S_toList]
                  have hrt4 := hrt3.below hb4
                  have hrd4' := hrd3'.below hb4
                  have hbel4 := bel_call hbel3 hb4
                  have hck4 : w4.cell? ⟨b, off + k, none⟩ = some (.string (S tk)) := (hb4.cell (p := ⟨b, off + k, none⟩) hbl3).trans hck3
                  have hbl4 : b < w4.heap.size := Nat.lt_of_lt_of_le hbl3 hb4.size
                  clear hrt3 hrd3' hbel3 hck3 hbl3 hb4
                  have hT := Lib.hid (show (if t < 0 ∧ (clockT tk).isSome = true then Fd.mk (clkR tk).1 d m y (clkR tk).2 else if d < 0 ∧ digitsB tk 1 2 = true then Fd.mk t (valueI tk) m y r else if m < 0 ∧ 0 < monthI tk then Fd.mk t d (monthI tk) y r else if y < 0 ∧ digitsB tk 2 4 = true then Fd.mk t d m (valueI tk) r else Fd.mk t d m y r) = ⟨t, d, monthI tk, y, r⟩ by simp [E0.out, hq1, e2.out, E2.out])
                  replace hst := Lib.hid (hst.out.trans (congrArg (fun z => List.foldl tokStep z ((tokensL s.toList).drop (k + 1))) hT.out))
                  have hok2 := hok
                  replace hok2 : FdOk ⟨t, d, monthI tk, y, r⟩ := by have e := hT.out; rw [← e]; exact hok
                  clear hT hok
                  go_wp2
                  go_roundw
                  case rel => exact ⟨k + 1, t, d, monthI tk, y, r, monthI tk, [], A2, c2, by go_num, by omega, rfl, rfl, .inr ⟨rfl, hq2⟩, rfl, rfl, hrt4, .inl ⟨rfl, ht1, hr1⟩, hok2, hrd4', hbel4, hst.out⟩
                  case measure => simp [intOf]; omega
                · have E2 := Lib.hid (eq_false hq2)
                  go_wp2_with fail
                  refine (refMonth_any (S tk) _ hzt2).mono ?_
                  rintro e w3 ⟨rfl, hb3⟩
                  rw [S_toList]
                  have hrt3 := hrt2.below hb3
                  have hrd3' := hrd2.below hb3
                  have hbel3 := bel_call hbel2 hb3
                  have hck3 : w3.cell? ⟨b, off + k, none⟩ = some (.string (S tk)) := (hb3.cell (p := ⟨b, off + k, none⟩) hbl2).trans hck2
                  have hbl3 : b < w3.heap.size := Nat.lt_of_lt_of_le hbl2 hb3.size
                  clear hrt2 hrd2 hbel2 hck2 hbl2 hb3
                  by_cases g3 : y < 0
                  · have e3 := Lib.hid (eq_true g3)
                    cases hq3 : digitsB tk 2 4 with
                    | true =>
                      have hq3H := Lib.hid hq3
                      go_wp2_with fail
                      refine (refDigits7_any (S tk) 2 4 _ hzt).mono ?_
                      rintro e w' ⟨rfl, rfl⟩
                      rw [S_toList, hq3H.out]
                      go_wp2_with fail
                      refine (value_any (S tk) _ hzt).mono ?_
                      rintro e w' ⟨rfl, rfl⟩
                      rw [S_toList]
                      have hT := Lib.hid (show (if t < 0 ∧ (clockT tk).isSome = true then Fd.mk (clkR tk).1 d m y (clkR tk).2 else if d < 0 ∧ digitsB tk 1 2 = true then Fd.mk t (valueI tk) m y r else if m < 0 ∧ 0 < monthI tk then Fd.mk t d (monthI tk) y r else if y < 0 ∧ digitsB tk 2 4 = true then Fd.mk t d m (valueI tk) r else Fd.mk t d m y r) = ⟨t, d, m, valueI tk, r⟩ by simp [E0.out, hq1, E2.out, e3.out, hq3])
                      replace hst := Lib.hid (hst.out.trans (congrArg (fun z => List.foldl tokStep z ((tokensL s.toList).drop (k + 1))) hT.out))
                      have hok2 := hok
                      replace hok2 : FdOk ⟨t, d, m, valueI tk, r⟩ := by have e := hT.out; rw [← e]; exact hok
                      clear hT hok
                      go_wp2
                      go_roundw
                      case rel => exact ⟨k + 1, t, d, m, valueI tk, r, 0, [], A2, c2, by go_num, by omega, rfl, rfl, .inl ⟨g2, rfl⟩, rfl, rfl, hrt3, .inl ⟨rfl, ht1, hr1⟩, hok2, hrd3', hbel3, hst.out⟩
                      case measure => simp [intOf]; omega
                    | false =>
                      have hq3H := Lib.hid hq3
                      go_wp2_with fail
                      refine (refDigits7_any (S tk) 2 4 _ hzt).mono ?_
                      rintro e w' ⟨rfl, rfl⟩
                      rw [S_toList, hq3H.out]
                      have hT := Lib.hid (show (if t < 0 ∧ (clockT tk).isSome = true then Fd.mk (clkR tk).1 d m y (clkR tk).2 else if d < 0 ∧ digitsB tk 1 2 = true then Fd.mk t (valueI tk) m y r else if m < 0 ∧ 0 < monthI tk then Fd.mk t d (monthI tk) y r else if y < 0 ∧ digitsB tk 2 4 = true then Fd.mk t d m (valueI tk) r else Fd.mk t d m y r) = ⟨t, d, m, y, r⟩ by simp [E0.out, hq1, E2.out, hq3])
                      replace hst := Lib.hid (hst.out.trans (congrArg (fun z => List.foldl tokStep z ((tokensL s.toList).drop (k + 1))) hT.out))
                      have hok2 := hok
                      replace hok2 : FdOk ⟨t, d, m, y, r⟩ := by have e := hT.out; rw [← e]; exact hok
                      clear hT hok
                      go_wp2
                      go_roundw
                      case rel => exact ⟨k + 1, t, d, m, y, r, 0, [], A2, c2, by go_num, by omega, rfl, rfl, .inl ⟨g2, rfl⟩, rfl, rfl, hrt3, .inl ⟨rfl, ht1, hr1⟩, hok2, hrd3', hbel3, hst.out⟩
                      case measure => simp [intOf]; omega
                  · have e3 := Lib.hid (eq_false g3)
                    have hT := Lib.hid (show (if t < 0 ∧ (clockT tk).isSome = true then Fd.mk (clkR tk).1 d m y (clkR tk).2 else if d < 0 ∧ digitsB tk 1 2 = true then Fd.mk t (valueI tk) m y r else if m < 0 ∧ 0 < monthI tk then Fd.mk t d (monthI tk) y r else if y < 0 ∧ digitsB tk 2 4 = true then Fd.mk t d m (valueI tk) r else Fd.mk t d m y r) = ⟨t, d, m, y, r⟩ by simp [E0.out, hq1, E2.out, e3.out])
                    replace hst := Lib.hid (hst.out.trans (congrArg (fun z => List.foldl tokStep z ((tokensL s.toList).drop (k + 1))) hT.out))
                    have hok2 := hok
                    replace hok2 : FdOk ⟨t, d, m, y, r⟩ := by have e := hT.out; rw [← e]; exact hok
                    clear hT hok
                    go_wp2
                    go_roundw
                    case rel => exact ⟨k + 1, t, d, m, y, r, 0, [], A2, c2, by go_num, by omega, rfl, rfl, .inl ⟨g2, rfl⟩, rfl, rfl, hrt3, .inl ⟨rfl, ht1, hr1⟩, hok2, hrd3', hbel3, hst.out⟩
                    case measure => simp [intOf]; omega
              · subst g2
                have e2 := Lib.hid (show (m < 0) = False from eq_false (by omega))
                have hz0 : (m == 0) = false := beq_eq_false_iff_ne.2 (by omega)
                by_cases g3 : y < 0
                · have e3 := Lib.hid (eq_true g3)
                  cases hq3 : digitsB tk 2 4 with
                  | true =>
                    have hq3H := Lib.hid hq3
                    go_wp2_with fail
                    refine (refDigits7_any (S tk) 2 4 _ hzt).mono ?_
                    rintro e w' ⟨rfl, rfl⟩
                    rw [S_toList, hq3H.out]
                    go_wp2_with fail
                    refine (value_any (S tk) _ hzt).mono ?_
                    rintro e w' ⟨rfl, rfl⟩
                    rw [S_toList]
                    have hT := Lib.hid (show (if t < 0 ∧ (clockT tk).isSome = true then Fd.mk (clkR tk).1 d m y (clkR tk).2 else if d < 0 ∧ digitsB tk 1 2 = true then Fd.mk t (valueI tk) m y r else if m < 0 ∧ 0 < monthI tk then Fd.mk t d (monthI tk) y r else if y < 0 ∧ digitsB tk 2 4 = true then Fd.mk t d m (valueI tk) r else Fd.mk t d m y r) = ⟨t, d, m, valueI tk, r⟩ by simp [E0.out, hq1, e2.out, e3.out, hq3])
                    replace hst := Lib.hid (hst.out.trans (congrArg (fun z => List.foldl tokStep z ((tokensL s.toList).drop (k + 1))) hT.out))
                    have hok2 := hok
                    replace hok2 : FdOk ⟨t, d, m, valueI tk, r⟩ := by have e := hT.out; rw [← e]; exact hok
                    clear hT hok
                    go_wp2
                    go_roundw
                    case rel => exact ⟨k + 1, t, d, m, valueI tk, r, m, [], A2, c2, by go_num, by omega, rfl, rfl, .inr ⟨rfl, g2m⟩, rfl, rfl, hrt2, .inl ⟨rfl, ht1, hr1⟩, hok2, hrd2, hbel2, hst.out⟩
                    case measure => simp [intOf]; omega
                  | false =>
                    have hq3H := Lib.hid hq3
                    go_wp2_with fail
                    refine (refDigits7_any (S tk) 2 4 _ hzt).mono ?_
                    rintro e w' ⟨rfl, rfl⟩
                    rw [S_toList, hq3H.out]
                    have hT := Lib.hid (show (if t < 0 ∧ (clockT tk).isSome = true then Fd.mk (clkR tk).1 d m y (clkR tk).2 else if d < 0 ∧ digitsB tk 1 2 = true then Fd.mk t (valueI tk) m y r else if m < 0 ∧ 0 < monthI tk then Fd.mk t d (monthI tk) y r else if y < 0 ∧ digitsB tk 2 4 = true then Fd.mk t d m (valueI tk) r else Fd.mk t d m y r) = ⟨t, d, m, y, r⟩ by simp [E0.out, hq1, e2.out, hq3])
                    replace hst := Lib.hid (hst.out.trans (congrArg (fun z => List.foldl tokStep z ((tokensL s.toList).drop (k + 1))) hT.out))
                    have hok2 := hok
                    replace hok2 : FdOk ⟨t, d, m, y, r⟩ := by have e := hT.out; rw [← e]; exact hok
                    clear hT hok
                    go_wp2
                    go_roundw
                    case rel => exact ⟨k + 1, t, d, m, y, r, m, [], A2, c2, by go_num, by omega, rfl, rfl, .inr ⟨rfl, g2m⟩, rfl, rfl, hrt2, .inl ⟨rfl, ht1, hr1⟩, hok2, hrd2, hbel2, hst.out⟩
                    case measure => simp [intOf]; omega
                · have e3 := Lib.hid (eq_false g3)
                  have hT := Lib.hid (show (if t < 0 ∧ (clockT tk).isSome = true then Fd.mk (clkR tk).1 d m y (clkR tk).2 else if d < 0 ∧ digitsB tk 1 2 = true then Fd.mk t (valueI tk) m y r else if m < 0 ∧ 0 < monthI tk then Fd.mk t d (monthI tk) y r else if y < 0 ∧ digitsB tk 2 4 = true then Fd.mk t d m (valueI tk) r else Fd.mk t d m y r) = ⟨t, d, m, y, r⟩ by simp [E0.out, hq1, e2.out, e3.out])
                  replace hst := Lib.hid (hst.out.trans (congrArg (fun z => List.foldl tokStep z ((tokensL s.toList).drop (k + 1))) hT.out))
                  have hok2 := hok
                  replace hok2 : FdOk ⟨t, d, m, y, r⟩ := by have e := hT.out; rw [← e]; exact hok
                  clear hT hok
                  go_wp2
                  go_roundw
                  case rel => exact ⟨k + 1, t, d, m, y, r, m, [], A2, c2, by go_num, by omega, rfl, rfl, .inr ⟨rfl, g2m⟩, rfl, rfl, hrt2, .inl ⟨rfl, ht1, hr1⟩, hok2, hrd2, hbel2, hst.out⟩
                  case measure => simp [intOf]; omega
          · have e1 := Lib.hid (eq_false g1)
            rcases hmm with ⟨g2, g2m⟩ | ⟨g2, g2m⟩
            · subst g2m
              have e2 := Lib.hid (show (m < 0) = True from eq_true (by omega))
              by_cases hq2 : 0 < monthI tk
              · have E2 := Lib.hid (eq_true hq2)
                go_wp2_with fail
                refine (refMonth_any (S tk) _ hzt2).mono ?_
                rintro e w3 ⟨rfl, hb3⟩
                rw [S_toList]
                have hrt3 := hrt2.below hb3
                have hrd3' := hrd2.below hb3
                have hbel3 := bel_call hbel2 hb3
                have hck3 : w3.cell? ⟨b, off + k, none⟩ = some (.string (S tk)) := (hb3.cell (p := ⟨b, off + k, none⟩) hbl2).trans hck2
                have hbl3 : b < w3.heap.size := Nat.lt_of_lt_of_le hbl2 hb3.size
                clear hrt2 hrd2 hbel2 hck2 hbl2 hb3
                go_wp2_with fail
                refine (refMonth_any (S tk) _ hzt2).mono ?_
                rintro e w4 ⟨rfl, hb4⟩
                rw [S_toList]
                have hrt4 := hrt3.below hb4
                have hrd4' := hrd3'.below hb4
                have hbel4 := bel_call hbel3 hb4
                have hck4 : w4.cell? ⟨b, off + k, none⟩ = some (.string (S tk)) := (hb4.cell (p := ⟨b, off + k, none⟩) hbl3).trans hck3
                have hbl4 : b < w4.heap.size := Nat.lt_of_lt_of_le hbl3 hb4.size
                clear hrt3 hrd3' hbel3 hck3 hbl3 hb4
                have hT := Lib.hid (show (if t < 0 ∧ (clockT tk).isSome = true then Fd.mk (clkR tk).1 d m y (clkR tk).2 else if d < 0 ∧ digitsB tk 1 2 = true then Fd.mk t (valueI tk) m y r else if m < 0 ∧ 0 < monthI tk then Fd.mk t d (monthI tk) y r else if y < 0 ∧ digitsB tk 2 4 = true then Fd.mk t d m (valueI tk) r else Fd.mk t d m y r) = ⟨t, d, monthI tk, y, r⟩ by simp [E0.out, e1.out, e2.out, E2.out])
                replace hst := Lib.hid (hst.out.trans (congrArg (fun z => List.foldl tokStep z ((tokensL s.toList).drop (k + 1))) hT.out))
                have hok2 := hok
                replace hok2 : FdOk ⟨t, d, monthI tk, y, r⟩ := by have e := hT.out; rw [← e]; exact hok
                clear hT hok
                go_wp2
                go_roundw
                case rel => exact ⟨k + 1, t, d, monthI tk, y, r, monthI tk, [], A2, c2, by go_num, by omega, rfl, rfl, .inr ⟨rfl, hq2⟩, rfl, rfl, hrt4, .inl ⟨rfl, ht1, hr1⟩, hok2, hrd4', hbel4, hst.out⟩
                case measure => simp [intOf]; omega
              · have E2 := Lib.hid (eq_false hq2)
                go_wp2_with fail
                refine (refMonth_any (S tk) _ hzt2).mono ?_
                rintro e w3 ⟨rfl, hb3⟩
                rw [S_toList]
                have hrt3 := hrt2.below hb3
                have hrd3' := hrd2.below hb3
                have hbel3 := bel_call hbel2 hb3
                have hck3 : w3.cell? ⟨b, off + k, none⟩ = some (.string (S tk)) := (hb3.cell (p := ⟨b, off + k, none⟩) hbl2).trans hck2
                have hbl3 : b < w3.heap.size := Nat.lt_of_lt_of_le hbl2 hb3.size
                clear hrt2 hrd2 hbel2 hck2 hbl2 hb3
                by_cases g3 : y < 0
                · have e3 := Lib.hid (eq_true g3)
                  cases hq3 : digitsB tk 2 4 with
                  | true =>
                    have hq3H := Lib.hid hq3
                    go_wp2_with fail
                    refine (refDigits7_any (S tk) 2 4 _ hzt).mono ?_
                    rintro e w' ⟨rfl, rfl⟩
                    rw [S_toList, hq3H.out]
                    go_wp2_with fail
                    refine (value_any (S tk) _ hzt).mono ?_
                    rintro e w' ⟨rfl, rfl⟩
                    rw [S_toList]
                    have hT := Lib.hid (show (if t < 0 ∧ (clockT tk).isSome = true then Fd.mk (clkR tk).1 d m y (clkR tk).2 else if d < 0 ∧ digitsB tk 1 2 = true then Fd.mk t (valueI tk) m y r else if m < 0 ∧ 0 < monthI tk then Fd.mk t d (monthI tk) y r else if y < 0 ∧ digitsB tk 2 4 = true then Fd.mk t d m (valueI tk) r else Fd.mk t d m y r) = ⟨t, d, m, valueI tk, r⟩ by simp [E0.out, e1.out, E2.out, e3.out, hq3])
                    replace hst := Lib.hid (hst.out.trans (congrArg (fun z => List.foldl tokStep z ((tokensL s.toList).drop (k + 1))) hT.out))
                    have hok2 := hok
                    replace hok2 : FdOk ⟨t, d, m, valueI tk, r⟩ := by have e := hT.out; rw [← e]; exact hok
                    clear hT hok
                    go_wp2
                    go_roundw
                    case rel => exact ⟨k + 1, t, d, m, valueI tk, r, 0, [], A2, c2, by go_num, by omega, rfl, rfl, .inl ⟨g2, rfl⟩, rfl, rfl, hrt3, .inl ⟨rfl, ht1, hr1⟩, hok2, hrd3', hbel3, hst.out⟩
                    case measure => simp [intOf]; omega
                  | false =>
                    have hq3H := Lib.hid hq3
                    go_wp2_with fail
                    refine (refDigits7_any (S tk) 2 4 _ hzt).mono ?_
                    rintro e w' ⟨rfl, rfl⟩
                    rw [S_toList, hq3H.out]
                    have hT := Lib.hid (show (if t < 0 ∧ (clockT tk).isSome = true then Fd.mk (clkR tk).1 d m y (clkR tk).2 else if d < 0 ∧ digitsB tk 1 2 = true then Fd.mk t (valueI tk) m y r else if m < 0 ∧ 0 < monthI tk then Fd.mk t d (monthI tk) y r else if y < 0 ∧ digitsB tk 2 4 = true then Fd.mk t d m (valueI tk) r else Fd.mk t d m y r) = ⟨t, d, m, y, r⟩ by simp [E0.out, e1.out, E2.out, hq3])
                    replace hst := Lib.hid (hst.out.trans (congrArg (fun z => List.foldl tokStep z ((tokensL s.toList).drop (k + 1))) hT.out))
                    have hok2 := hok
                    replace hok2 : FdOk ⟨t, d, m, y, r⟩ := by have e := hT.out; rw [← e]; exact hok
                    clear hT hok
                    go_wp2
                    go_roundw
                    case rel => exact ⟨k + 1, t, d, m, y, r, 0, [], A2, c2, by go_num, by omega, rfl, rfl, .inl ⟨g2, rfl⟩, rfl, rfl, hrt3, .inl ⟨rfl, ht1, hr1⟩, hok2, hrd3', hbel3, hst.out⟩
                    case measure => simp [intOf]; omega
                · have e3 := Lib.hid (eq_false g3)
                  have hT := Lib.hid (show (if t < 0 ∧ (clockT tk).isSome = true then Fd.mk (clkR tk).1 d m y (clkR tk).2 else if d < 0 ∧ digitsB tk 1 2 = true then Fd.mk t (valueI tk) m y r else if m < 0 ∧ 0 < monthI tk then Fd.mk t d (monthI tk) y r else if y < 0 ∧ digitsB tk 2 4 = true then Fd.mk t d m (valueI tk) r else Fd.mk t d m y r) = ⟨t, d, m, y, r⟩ by simp [E0.out, e1.out, E2.out, e3.out])
                  replace hst := Lib.hid (hst.out.trans (congrArg (fun z => List.foldl tokStep z ((tokensL s.toList).drop (k + 1))) hT.out))
                  have hok2 := hok
                  replace hok2 : FdOk ⟨t, d, m, y, r⟩ := by have e := hT.out; rw [← e]; exact hok
                  clear hT hok
                  go_wp2
                  go_roundw
                  case rel => exact ⟨k + 1, t, d, m, y, r, 0, [], A2, c2, by go_num, by omega, rfl, rfl, .inl ⟨g2, rfl⟩, rfl, rfl, hrt3, .inl ⟨rfl, ht1, hr1⟩, hok2, hrd3', hbel3, hst.out⟩
                  case measure => simp [intOf]; omega
            · subst g2
              have e2 := Lib.hid (show (m < 0) = False from eq_false (by omega))
              have hz0 : (m == 0) = false := beq_eq_false_iff_ne.2 (by omega)
              by_cases g3 : y < 0
              · have e3 := Lib.hid (eq_true g3)
                cases hq3 : digitsB tk 2 4 with
                | true =>
                  have hq3H := Lib.hid hq3
                  go_wp2_with fail
                  refine (refDigits7_any (S tk) 2 4 _ hzt).mono ?_
                  rintro e w' ⟨rfl, rfl⟩
                  rw [S_toList, hq3H.out]
                  go_wp2_with fail
                  refine (value_any (S tk) _ hzt).mono ?_
                  rintro e w' ⟨rfl, rfl⟩
                  rw [S_toList]
                  have hT := Lib.hid (show (if t < 0 ∧ (clockT tk).isSome = true then Fd.mk (clkR tk).1 d m y (clkR tk).2 else if d < 0 ∧ digitsB tk 1 2 = true then Fd.mk t (valueI tk) m y r else if m < 0 ∧ 0 < monthI tk then Fd.mk t d (monthI tk) y r else if y < 0 ∧ digitsB tk 2 4 = true then Fd.mk t d m (valueI tk) r else Fd.mk t d m y r) = ⟨t, d, m, valueI tk, r⟩ by simp [E0.out, e1.out, e2.out, e3.out, hq3])
                  replace hst := Lib.hid (hst.out.trans (congrArg (fun z => List.foldl tokStep z ((tokensL s.toList).drop (k + 1))) hT.out))
                  have hok2 := hok
                  replace hok2 : FdOk ⟨t, d, m, valueI tk, r⟩ := by have e := hT.out; rw [← e]; exact hok
                  clear hT hok
                  go_wp2
                  go_roundw
                  case rel => exact ⟨k + 1, t, d, m, valueI tk, r, m, [], A2, c2, by go_num, by omega, rfl, rfl, .inr ⟨rfl, g2m⟩, rfl, rfl, hrt2, .inl ⟨rfl, ht1, hr1⟩, hok2, hrd2, hbel2, hst.out⟩
                  case measure => simp [intOf]; omega
                | false =>
                  have hq3H := Lib.hid hq3
                  go_wp2_with fail
                  refine (refDigits7_any (S tk) 2 4 _ hzt).mono ?_
                  rintro e w' ⟨rfl, rfl⟩
                  rw [S_toList, hq3H.out]
                  have hT := Lib.hid (show (if t < 0 ∧ (clockT tk).isSome = true then Fd.mk (clkR tk).1 d m y (clkR tk).2 else if d < 0 ∧ digitsB tk 1 2 = true then Fd.mk t (valueI tk) m y r else if m < 0 ∧ 0 < monthI tk then Fd.mk t d (monthI tk) y r else if y < 0 ∧ digitsB tk 2 4 = true then Fd.mk t d m (valueI tk) r else Fd.mk t d m y r) = ⟨t, d, m, y, r⟩ by simp [E0.out, e1.out, e2.out, hq3])
                  replace hst := Lib.hid (hst.out.trans (congrArg (fun z => List.foldl tokStep z ((tokensL s.toList).drop (k + 1))) hT.out))
                  have hok2 := hok
                  replace hok2 : FdOk ⟨t, d, m, y, r⟩ := by have e := hT.out; rw [← e]; exact hok
                  clear hT hok
                  go_wp2
                  go_roundw
                  case rel => exact ⟨k + 1, t, d, m, y, r, m, [], A2, c2, by go_num, by omega, rfl, rfl, .inr ⟨rfl, g2m⟩, rfl, rfl, hrt2, .inl ⟨rfl, ht1, hr1⟩, hok2, hrd2, hbel2, hst.out⟩
                  case measure => simp [intOf]; omega
              · have e3 := Lib.hid (eq_false g3)
                have hT := Lib.hid (show (if t < 0 ∧ (clockT tk).isSome = true then Fd.mk (clkR tk).1 d m y (clkR tk).2 else if d < 0 ∧ digitsB tk 1 2 = true then Fd.mk t (valueI tk) m y r else if m < 0 ∧ 0 < monthI tk then Fd.mk t d (monthI tk) y r else if y < 0 ∧ digitsB tk 2 4 = true then Fd.mk t d m (valueI tk) r else Fd.mk t d m y r) = ⟨t, d, m, y, r⟩ by simp [E0.out, e1.out, e2.out, e3.out])
                replace hst := Lib.hid (hst.out.trans (congrArg (fun z => List.foldl tokStep z ((tokensL s.toList).drop (k + 1))) hT.out))
                have hok2 := hok
                replace hok2 : FdOk ⟨t, d, m, y, r⟩ := by have e := hT.out; rw [← e]; exact hok
                clear hT hok
                go_wp2
                go_roundw
                case rel => exact ⟨k + 1, t, d, m, y, r, m, [], A2, c2, by go_num, by omega, rfl, rfl, .inr ⟨rfl, g2m⟩, rfl, rfl, hrt2, .inl ⟨rfl, ht1, hr1⟩, hok2, hrd2, hbel2, hst.out⟩
                case measure => simp [intOf]; omega
      · simp only at ht1 hr1
        have e0 := Lib.hid (show (t < 0) = False from eq_false (by omega))
        by_cases g1 : d < 0
        · have e1 := Lib.hid (eq_true g1)
          cases hq1 : digitsB tk 1 2 with
          | true =>
            have hq1H := Lib.hid hq1
            go_wp2_with fail
            refine (refDigits7_any (S tk) 1 2 _ hzt).mono ?_
            rintro e w' ⟨rfl, rfl⟩
            rw [S_toList, hq1H.out]
            go_wp2_with fail
            refine (value_any (S tk) _ hzt).mono ?_
            rintro e w' ⟨rfl, rfl⟩
            rw [S_toList]
            have hT := Lib.hid (show (if t < 0 ∧ (clockT tk).isSome = true then Fd.mk (clkR tk).1 d m y (clkR tk).2 else if d < 0 ∧ digitsB tk 1 2 = true then Fd.mk t (valueI tk) m y r else if m < 0 ∧ 0 < monthI tk then Fd.mk t d (monthI tk) y r else if y < 0 ∧ digitsB tk 2 4 = true then Fd.mk t d m (valueI tk) r else Fd.mk t d m y r) = ⟨t, valueI tk, m, y, r⟩ by simp [e0.out, e1.out, hq1])
            replace hst := Lib.hid (hst.out.trans (congrArg (fun z => List.foldl tokStep z ((tokensL s.toList).drop (k + 1))) hT.out))
            have hok2 := hok
            replace hok2 : FdOk ⟨t, valueI tk, m, y, r⟩ := by have e := hT.out; rw [← e]; exact hok
            clear hT hok
            go_wp2
            go_roundw
            case rel => exact ⟨k + 1, t, valueI tk, m, y, r, mm, [h0, m0, s0], A2, c2, by go_num, by omega, rfl, rfl, hmm, rfl, rfl, hrt2, .inr ⟨h0, m0, s0, rfl, hb01, hb02, hb03, ht1, hr1⟩, hok2, hrd2, hbel2, hst.out⟩
            case measure => simp [intOf]; omega
          | false =>
            have hq1H := Lib.hid hq1
            go_wp2_with fail
            refine (refDigits7_any (S tk) 1 2 _ hzt).mono ?_
            rintro e w' ⟨rfl, rfl⟩
            rw [S_toList, hq1H.out]
            rcases hmm with ⟨g2, g2m⟩ | ⟨g2, g2m⟩
            · subst g2m
              have e2 := Lib.hid (show (m < 0) = True from eq_true (by omega))
              by_cases hq2 : 0 < monthI tk
              · have E2 := Lib.hid (eq_true hq2)
                go_wp2_with fail
                refine (refMonth_any (S tk) _ hzt2).mono ?_
                rintro e w3 ⟨rfl, hb3⟩
                rw [S_toList]
                have hrt3 := hrt2.below hb3
                have hrd3' := hrd2.below hb3
                have hbel3 := bel_call hbel2 hb3
                have hck3 : w3.cell? ⟨b, off + k, none⟩ = some (.string (S tk)) := (hb3.cell (p := ⟨b, off + k, none⟩) hbl2).trans hck2
                have hbl3 : b < w3.heap.size := Nat.lt_of_lt_of_le hbl2 hb3.size
                clear hrt2 hrd2 hbel2 hck2 hbl2 hb3
                go_wp2_with fail
                refine (refMonth_any (S tk) _ hzt2).mono ?_
                rintro e w4 ⟨rfl, hb4⟩
                rw [S_toList]
                have hrt4 := hrt3.below hb4
                have hrd4' := hrd3'.below hb4
                have hbel4 := bel_call hbel3 hb4
                have hck4 : w4.cell? ⟨b, off + k, none⟩ = some (.string (S tk)) := (hb4.cell (p := ⟨b, off + k, none⟩) hbl3).trans hck3
                have hbl4 : b < w4.heap.size := Nat.lt_of_lt_of_le hbl3 hb4.size
                clear hrt3 hrd3' hbel3 hck3 hbl3 hb4
                have hT := Lib.hid (show (if t < 0 ∧ (clockT tk).isSome = true then Fd.mk (clkR tk).1 d m y (clkR tk).2 else if d < 0 ∧ digitsB tk 1 2 = true then Fd.mk t (valueI tk) m y r else if m < 0 ∧ 0 < monthI tk then Fd.mk t d (monthI tk) y r else if y < 0 ∧ digitsB tk 2 4 = true then Fd.mk t d m (valueI tk) r else Fd.mk t d m y r) = ⟨t, d, monthI tk, y, r⟩ by simp [e0.out, hq1, e2.out, E2.out])
                replace hst := Lib.hid (hst.out.trans (congrArg (fun z => List.foldl tokStep z ((tokensL s.toList).drop (k + 1))) hT.out))
                have hok2 := hok
                replace hok2 : FdOk ⟨t, d, monthI tk, y, r⟩ := by have e := hT.out; rw [← e]; exact hok
                clear hT hok
                go_wp2
                go_roundw
                case rel => exact ⟨k + 1, t, d, monthI tk, y, r, monthI tk, [h0, m0, s0], A2, c2, by go_num, by omega, rfl, rfl, .inr ⟨rfl, hq2⟩, rfl, rfl, hrt4, .inr ⟨h0, m0, s0, rfl, hb01, hb02, hb03, ht1, hr1⟩, hok2, hrd4', hbel4, hst.out⟩
                case measure => simp [intOf]; omega
              · have E2 := Lib.hid (eq_false hq2)
                go_wp2_with fail
                refine (refMonth_any (S tk) _ hzt2).mono ?_
                rintro e w3 ⟨rfl, hb3⟩
                rw [S_toList]
                have hrt3 := hrt2.below hb3
                have hrd3' := hrd2.below hb3
                have hbel3 := bel_call hbel2 hb3
                have hck3 : w3.cell? ⟨b, off + k, none⟩ = some (.string (S tk)) := (hb3.cell (p := ⟨b, off + k, none⟩) hbl2).trans hck2
                have hbl3 : b < w3.heap.size := Nat.lt_of_lt_of_le hbl2 hb3.size
                clear hrt2 hrd2 hbel2 hck2 hbl2 hb3
                by_cases g3 : y < 0
                · have e3 := Lib.hid (eq_true g3)
                  cases hq3 : digitsB tk 2 4 with
                  | true =>
                    have hq3H := Lib.hid hq3
                    go_wp2_with fail
                    refine (refDigits7_any (S tk) 2 4 _ hzt).mono ?_
                    rintro e w' ⟨rfl, rfl⟩
                    rw [S_toList, hq3H.out]
                    go_wp2_with fail
                    refine (value_any (S tk) _ hzt).mono ?_
                    rintro e w' ⟨rfl, rfl⟩
                    rw [S_toList]
                    have hT := Lib.hid (show (if t < 0 ∧ (clockT tk).isSome = true then Fd.mk (clkR tk).1 d m y (clkR tk).2 else if d < 0 ∧ digitsB tk 1 2 = true then Fd.mk t (valueI tk) m y r else if m < 0 ∧ 0 < monthI tk then Fd.mk t d (monthI tk) y r else if y < 0 ∧ digitsB tk 2 4 = true then Fd.mk t d m (valueI tk) r else Fd.mk t d m y r) = ⟨t, d, m, valueI tk, r⟩ by simp [e0.out, hq1, E2.out, e3.out, hq3])
                    replace hst := Lib.hid (hst.out.trans (congrArg (fun z => List.foldl tokStep z ((tokensL s.toList).drop (k + 1))) hT.out))
                    have hok2 := hok
                    replace hok2 : FdOk ⟨t, d, m, valueI tk, r⟩ := by have e := hT.out; rw [← e]; exact hok
                    clear hT hok
                    go_wp2
                    go_roundw
                    case rel => exact ⟨k + 1, t, d, m, valueI tk, r, 0, [h0, m0, s0], A2, c2, by go_num, by omega, rfl, rfl, .inl ⟨g2, rfl⟩, rfl, rfl, hrt3, .inr ⟨h0, m0, s0, rfl, hb01, hb02, hb03, ht1, hr1⟩, hok2, hrd3', hbel3, hst.out⟩
                    case measure => simp [intOf]; omega
                  | false =>
                    have hq3H := Lib.hid hq3
                    go_wp2_with fail
                    refine (refDigits7_any (S tk) 2 4 _ hzt).mono ?_
                    rintro e w' ⟨rfl, rfl⟩
                    rw [S_toList, hq3H.out]
                    have hT := Lib.hid (show (if t < 0 ∧ (clockT tk).isSome = true then Fd.mk (clkR tk).1 d m y (clkR tk).2 else if d < 0 ∧ digitsB tk 1 2 = true then Fd.mk t (valueI tk) m y r else if m < 0 ∧ 0 < monthI tk then Fd.mk t d (monthI tk) y r else if y < 0 ∧ digitsB tk 2 4 = true then Fd.mk t d m (valueI tk) r else Fd.mk t d m y r) = ⟨t, d, m, y, r⟩ by simp [e0.out, hq1, E2.out, hq3])
                    replace hst := Lib.hid (hst.out.trans (congrArg (fun z => List.foldl tokStep z ((tokensL s.toList).drop (k + 1))) hT.out))
                    have hok2 := hok
                    replace hok2 : FdOk ⟨t, d, m, y, r⟩ := by have e := hT.out; rw [← e]; exact hok
                    clear hT hok
                    go_wp2
                    go_roundw
                    case rel => exact ⟨k + 1, t, d, m, y, r, 0, [h0, m0, s0], A2, c2, by go_num, by omega, rfl, rfl, .inl ⟨g2, rfl⟩, rfl, rfl, hrt3, .inr ⟨h0, m0, s0, rfl, hb01, hb02, hb03, ht1, hr1⟩, hok2, hrd3', hbel3, hst.out⟩
                    case measure => simp [intOf]; omega
                · have e3 := Lib.hid (eq_false g3)
                  have hT := Lib.hid (show (if t < 0 ∧ (clockT tk).isSome = true then Fd.mk (clkR tk).1 d m y (clkR tk).2 else if d < 0 ∧ digitsB tk 1 2 = true then Fd.mk t (valueI tk) m y r else if m < 0 ∧ 0 < monthI tk then Fd.mk t d (monthI tk) y r else if y < 0 ∧ digitsB tk 2 4 = true then Fd.mk t d m (valueI tk) r else Fd.mk t d m y r) = ⟨t, d, m, y, r⟩ by simp [e0.out, hq1, E2.out, e3.out])
                  replace hst := Lib.hid (hst.out.trans (congrArg (fun z => List.foldl tokStep z ((tokensL s.toList).drop (k + 1))) hT.out))
                  have hok2 := hok
                  replace hok2 : FdOk ⟨t, d, m, y, r⟩ := by have e := hT.out; rw [← e]; exact hok
                  clear hT hok
                  go_wp2
                  go_roundw
                  case rel => exact ⟨k + 1, t, d, m, y, r, 0, [h0, m0, s0], A2, c2, by go_num, by omega, rfl, rfl, .inl ⟨g2, rfl⟩, rfl, rfl, hrt3, .inr ⟨h0, m0, s0, rfl, hb01, hb02, hb03, ht1, hr1⟩, hok2, hrd3', hbel3, hst.out⟩
                  case measure => simp [intOf]; omega
            · subst g2
              have e2 := Lib.hid (show (m < 0) = False from eq_false (by omega))
              have hz0 : (m == 0) = false := beq_eq_false_iff_ne.2 (by omega)
              by_cases g3 : y < 0
              · have e3 := Lib.hid (eq_true g3)
                cases hq3 : digitsB tk 2 4 with
                | true =>
                  have hq3H := Lib.hid hq3
                  go_wp2_with fail
                  refine (refDigits7_any (S tk) 2 4 _ hzt).mono ?_
                  rintro e w' ⟨rfl, rfl⟩
                  rw [S_toList, hq3H.out]
                  go_wp2_with fail
                  refine (value_any (S tk) _ hzt).mono ?_
                  rintro e w' ⟨rfl, rfl⟩
                  rw [S_toList]
                  have hT := Lib.hid (show (if t < 0 ∧ (clockT tk).isSome = true then Fd.mk (clkR tk).1 d m y (clkR tk).2 else if d < 0 ∧ digitsB tk 1 2 = true then Fd.mk t (valueI tk) m y r else if m < 0 ∧ 0 < monthI tk then Fd.mk t d (monthI tk) y r else if y < 0 ∧ digitsB tk 2 4 = true then Fd.mk t d m (valueI tk) r else Fd.mk t d m y r) = ⟨t, d, m, valueI tk, r⟩ by simp [e0.out, hq1, e2.out, e3.out, hq3])
                  replace hst := Lib.hid (hst.out.trans (congrArg (fun z => List.foldl tokStep z ((tokensL s.toList).drop (k + 1))) hT.out))
                  have hok2 := hok
                  replace hok2 : FdOk ⟨t, d, m, valueI tk, r⟩ := by have e := hT.out; rw [← e]; exact hok
                  clear hT hok
                  go_wp2
                  go_roundw
                  case rel => exact ⟨k + 1, t, d, m, valueI tk, r, m, [h0, m0, s0], A2, c2, by go_num, by omega, rfl, rfl, .inr ⟨rfl, g2m⟩, rfl, rfl, hrt2, .inr ⟨h0, m0, s0, rfl, hb01, hb02, hb03, ht1, hr1⟩, hok2, hrd2, hbel2, hst.out⟩
                  case measure => simp [intOf]; omega
                | false =>
                  have hq3H := Lib.hid hq3
                  go_wp2_with fail
                  refine (refDigits7_any (S tk) 2 4 _ hzt).mono ?_
                  rintro e w' ⟨rfl, rfl⟩
                  rw [S_toList, hq3H.out]
                  have hT := Lib.hid (show (if t < 0 ∧ (clockT tk).isSome = true then Fd.mk (clkR tk).1 d m y (clkR tk).2 else if d < 0 ∧ digitsB tk 1 2 = true then Fd.mk t (valueI tk) m y r else if m < 0 ∧ 0 < monthI tk then Fd.mk t d (monthI tk) y r else if y < 0 ∧ digitsB tk 2 4 = true then Fd.mk t d m (valueI tk) r else Fd.mk t d m y r) = ⟨t, d, m, y, r⟩ by simp [e0.out, hq1, e2.out, hq3])
                  replace hst := Lib.hid (hst.out.trans (congrArg (fun z => List.foldl tokStep z ((tokensL s.toList).drop (k + 1))) hT.out))
                  have hok2 := hok
                  replace hok2 : FdOk ⟨t, d, m, y, r⟩ := by have e := hT.out; rw [← e]; exact hok
                  clear hT hok
                  go_wp2
                  go_roundw
                  case rel => exact ⟨k + 1, t, d, m, y, r, m, [h0, m0, s0], A2, c2, by go_num, by omega, rfl, rfl, .inr ⟨rfl, g2m⟩, rfl, rfl, hrt2, .inr ⟨h0, m0, s0, rfl, hb01, hb02, hb03, ht1, hr1⟩, hok2, hrd2, hbel2, hst.out⟩
                  case measure => simp [intOf]; omega
              · have e3 := Lib.hid (eq_false g3)
                have hT := Lib.hid (show (if t < 0 ∧ (clockT tk).isSome = true then Fd.mk (clkR tk).1 d m y (clkR tk).2 else if d < 0 ∧ digitsB tk 1 2 = true then Fd.mk t (valueI tk) m y r else if m < 0 ∧ 0 < monthI tk then Fd.mk t d (monthI tk) y r else if y < 0 ∧ digitsB tk 2 4 = true then Fd.mk t d m (valueI tk) r else Fd.mk t d m y r) = ⟨t, d, m, y, r⟩ by simp [e0.out, hq1, e2.out, e3.out])
                replace hst := Lib.hid (hst.out.trans (congrArg (fun z => List.foldl tokStep z ((tokensL s.toList).drop (k + 1))) hT.out))
                have hok2 := hok
                replace hok2 : FdOk ⟨t, d, m, y, r⟩ := by have e := hT.out; rw [← e]; exact hok
                clear hT hok
                go_wp2
                go_roundw
                case rel => exact ⟨k + 1, t, d, m, y, r, m, [h0, m0, s0], A2, c2, by go_num, by omega, rfl, rfl, .inr ⟨rfl, g2m⟩, rfl, rfl, hrt2, .inr ⟨h0, m0, s0, rfl, hb01, hb02, hb03, ht1, hr1⟩, hok2, hrd2, hbel2, hst.out⟩
                case measure => simp [intOf]; omega
        · have e1 := Lib.hid (eq_false g1)
          rcases hmm with ⟨g2, g2m⟩ | ⟨g2, g2m⟩
          · subst g2m
            have e2 := Lib.hid (show (m < 0) = True from eq_true (by omega))
            by_cases hq2 : 0 < monthI tk
            · have E2 := Lib.hid (eq_true hq2)
              go_wp2_with fail
              refine (refMonth_any (S tk) _ hzt2).mono ?_
              rintro e w3 ⟨rfl, hb3⟩
              rw [S_toList]
              have hrt3 := hrt2.below hb3
              have hrd3' := hrd2.below hb3
              have hbel3 := bel_call hbel2 hb3
              have hck3 : w3.cell? ⟨b, off + k, none⟩ = some (.string (S tk)) := (hb3.cell (p := ⟨b, off + k, none⟩) hbl2).trans hck2
              have hbl3 : b < w3.heap.size := Nat.lt_of_lt_of_le hbl2 hb3.size
              clear hrt2 hrd2 hbel2 hck2 hbl2 hb3
              go_wp2_with fail
              refine (refMonth_any (S tk) _ hzt2).mono ?_
              rintro e w4 ⟨rfl, hb4⟩
              rw [S_toList]
              have hrt4 := hrt3.below hb4
              have hrd4' := hrd3'.below hb4
              have hbel4 := bel_call hbel3 hb4
              have hck4 : w4.cell? ⟨b, off + k, none⟩ = some (.string (S tk)) := (hb4.cell (p := ⟨b, off + k, none⟩) hbl3).trans hck3
              have hbl4 : b < w4.heap.size := Nat.lt_of_lt_of_le hbl3 hb4.size
              clear hrt3 hrd3' hbel3 hck3 hbl3 hb4
              have hT := Lib.hid (show (if t < 0 ∧ (clockT tk).isSome = true then Fd.mk (clkR tk).1 d m y (clkR tk).2 else if d < 0 ∧ digitsB tk 1 2 = true then Fd.mk t (valueI tk) m y r else if m < 0 ∧ 0 < monthI tk then Fd.mk t d (monthI tk) y r else if y < 0 ∧ digitsB tk 2 4 = true then Fd.mk t d m (valueI tk) r else Fd.mk t d m y r) = ⟨t, d, monthI tk, y, r⟩ by simp [e0.out, e1.out, e2.out, E2.out])
              replace hst := Lib.hid (hst.out.trans (congrArg (fun z => List.foldl tokStep z ((tokensL s.toList).drop (k + 1))) hT.out))
              have hok2 := hok
              replace hok2 : FdOk ⟨t, d, monthI tk, y, r⟩ := by have e := hT.out; rw [← e]; exact hok
              clear hT hok
              go_wp2
              go_roundw
              case rel => exact ⟨k + 1, t, d, monthI tk, y, r, monthI tk, [h0, m0, s0], A2, c2, by go_num, by omega, rfl, rfl, .inr ⟨rfl, hq2⟩, rfl, rfl, hrt4, .inr ⟨h0, m0, s0, rfl, hb01, hb02, hb03, ht1, hr1⟩, hok2, hrd4', hbel4, hst.out⟩
              case measure => simp [intOf]; omega
            · have E2 := Lib.hid (eq_false hq2)
              go_wp2_with fail
              refine (refMonth_any (S tk) _ hzt2).mono ?_
              rintro e w3 ⟨rfl, hb3⟩
              rw [S_toList]
              have hrt3 := hrt2.below hb3
              have hrd3' := hrd2.below hb3
              have hbel3 := bel_call hbel2 hb3
              have hck3 : w3.cell? ⟨b, off + k, none⟩ = some (.string (S tk)) := (hb3.cell (p := ⟨b, off + k, none⟩) hbl2).trans hck2
              have hbl3 : b < w3.heap.size := Nat.lt_of_lt_of_le hbl2 hb3.size
              clear hrt2 hrd2 hbel2 hck2 hbl2 hb3
              by_cases g3 : y < 0
              · have e3 := Lib.hid (eq_true g3)
                cases hq3 : digitsB tk 2 4 with
                | true =>
                  have hq3H := Lib.hid hq3
                  go_wp2_with fail
                  refine (refDigits7_any (S tk) 2 4 _ hzt).mono ?_
                  rintro e w' ⟨rfl, rfl⟩
                  rw [S_toList, hq3H.out]
                  go_wp2_with fail
                  refine (value_any (S tk) _ hzt).mono ?_
                  rintro e w' ⟨rfl, rfl⟩
                  rw [S_toList]
                  have hT := Lib.hid (show (if t < 0 ∧ (clockT tk).isSome = true then Fd.mk (clkR tk).1 d m y (clkR tk).2 else if d < 0 ∧ digitsB tk 1 2 = true then Fd.mk t (valueI tk) m y r else if m < 0 ∧ 0 < monthI tk then Fd.mk t d (monthI tk) y r else if y < 0 ∧ digitsB tk 2 4 = true then Fd.mk t d m (valueI tk) r else Fd.mk t d m y r) = ⟨t, d, m, valueI tk, r⟩ by simp [e0.out, e1.out, E2.out, e3.out, hq3])
                  replace hst := Lib.hid (hst.out.trans (congrArg (fun z => List.foldl tokStep z ((tokensL s.toList).drop (k + 1))) hT.out))
                  have hok2 := hok
                  replace hok2 : FdOk ⟨t, d, m, valueI tk, r⟩ := by have e := hT.out; rw [← e]; exact hok
                  clear hT hok
                  go_wp2
                  go_roundw
                  case rel => exact ⟨k + 1, t, d, m, valueI tk, r, 0, [h0, m0, s0], A2, c2, by go_num, by omega, rfl, rfl, .inl ⟨g2, rfl⟩, rfl, rfl, hrt3, .inr ⟨h0, m0, s0, rfl, hb01, hb02, hb03, ht1, hr1⟩, hok2, hrd3', hbel3, hst.out⟩
                  case measure => simp [intOf]; omega
                | false =>
                  have hq3H := Lib.hid hq3
                  go_wp2_with fail
                  refine (refDigits7_any (S tk) 2 4 _ hzt).mono ?_
                  rintro e w' ⟨rfl, rfl⟩
                  rw [S_toList, hq3H.out]
                  have hT := Lib.hid (show (if t < 0 ∧ (clockT tk).isSome = true then Fd.mk (clkR tk).1 d m y (clkR tk).2 else if d < 0 ∧ digitsB tk 1 2 = true then Fd.mk t (valueI tk) m y r else if m < 0 ∧ 0 < monthI tk then Fd.mk t d (monthI tk) y r else if y < 0 ∧ digitsB tk 2 4 = true then Fd.mk t d m (valueI tk) r else Fd.mk t d m y r) = ⟨t, d, m, y, r⟩ by simp [e0.out, e1.out, E2.out, hq3])
                  replace hst := Lib.hid (hst.out.trans (congrArg (fun z => List.foldl tokStep z ((tokensL s.toList).drop (k + 1))) hT.out))
                  have hok2 := hok
                  replace hok2 : FdOk ⟨t, d, m, y, r⟩ := by have e := hT.out; rw [← e]; exact hok
                  clear hT hok
                  go_wp2
                  go_roundw
                  case rel => exact ⟨k + 1, t, d, m, y, r, 0, [h0, m0, s0], A2, c2, by go_num, by omega, rfl, rfl, .inl ⟨g2, rfl⟩, rfl, rfl, hrt3, .inr ⟨h0, m0, s0, rfl, hb01, hb02, hb03, ht1, hr1⟩, hok2, hrd3', hbel3, hst.out⟩
                  case measure => simp [intOf]; omega
              · have e3 := Lib.hid (eq_false g3)
                have hT := Lib.hid (show (if t < 0 ∧ (clockT tk).isSome = true then Fd.mk (clkR tk).1 d m y (clkR tk).2 else if d < 0 ∧ digitsB tk 1 2 = true then Fd.mk t (valueI tk) m y r else if m < 0 ∧ 0 < monthI tk then Fd.mk t d (monthI tk) y r else if y < 0 ∧ digitsB tk 2 4 = true then Fd.mk t d m (valueI tk) r else Fd.mk t d m y r) = ⟨t, d, m, y, r⟩ by simp [e0.out, e1.out, E2.out, e3.out])
                replace hst := Lib.hid (hst.out.trans (congrArg (fun z => List.foldl tokStep z ((tokensL s.toList).drop (k + 1))) hT.out))
                have hok2 := hok
                replace hok2 : FdOk ⟨t, d, m, y, r⟩ := by have e := hT.out; rw [← e]; exact hok
                clear hT hok
                go_wp2
                go_roundw
                case rel => exact ⟨k + 1, t, d, m, y, r, 0, [h0, m0, s0], A2, c2, by go_num, by omega, rfl, rfl, .inl ⟨g2, rfl⟩, rfl, rfl, hrt3, .inr ⟨h0, m0, s0, rfl, hb01, hb02, hb03, ht1, hr1⟩, hok2, hrd3', hbel3, hst.out⟩
                case measure => simp [intOf]; omega
          · subst g2
            have e2 := Lib.hid (show (m < 0) = False from eq_false (by omega))
            have hz0 : (m == 0) = false := beq_eq_false_iff_ne.2 (by omega)
            by_cases g3 : y < 0
            · have e3 := Lib.hid (eq_true g3)
              cases hq3 : digitsB tk 2 4 with
              | true =>
                have hq3H := Lib.hid hq3
                go_wp2_with fail
                refine (refDigits7_any (S tk) 2 4 _ hzt).mono ?_
                rintro e w' ⟨rfl, rfl⟩
                rw [S_toList, hq3H.out]
                go_wp2_with fail
                refine (value_any (S tk) _ hzt).mono ?_
                rintro e w' ⟨rfl, rfl⟩
                rw [S_toList]
                have hT := Lib.hid (show (if t < 0 ∧ (clockT tk).isSome = true then Fd.mk (clkR tk).1 d m y (clkR tk).2 else if d < 0 ∧ digitsB tk 1 2 = true then Fd.mk t (valueI tk) m y r else if m < 0 ∧ 0 < monthI tk then Fd.mk t d (monthI tk) y r else if y < 0 ∧ digitsB tk 2 4 = true then Fd.mk t d m (valueI tk) r else Fd.mk t d m y r) = ⟨t, d, m, valueI tk, r⟩ by simp [e0.out, e1.out, e2.out, e3.out, hq3])
                replace hst := Lib.hid (hst.out.trans (congrArg (fun z => List.foldl tokStep z ((tokensL s.toList).drop (k + 1))) hT.out))
                have hok2 := hok
                replace hok2 : FdOk ⟨t, d, m, valueI tk, r⟩ := by have e := hT.out; rw [← e]; exact hok
                clear hT hok
                go_wp2
                go_roundw
                case rel => exact ⟨k + 1, t, d, m, valueI tk, r, m, [h0, m0, s0], A2, c2, by go_num, by omega, rfl, rfl, .inr ⟨rfl, g2m⟩, rfl, rfl, hrt2, .inr ⟨h0, m0, s0, rfl, hb01, hb02, hb03, ht1, hr1⟩, hok2, hrd2, hbel2, hst.out⟩
                case measure => simp [intOf]; omega
              | false =>
                have hq3H := Lib.hid hq3
                go_wp2_with fail
                refine (refDigits7_any (S tk) 2 4 _ hzt).mono ?_
                rintro e w' ⟨rfl, rfl⟩
                rw [S_toList, hq3H.out]
                have hT := Lib.hid (show (if t < 0 ∧ (clockT tk).isSome = true then Fd.mk (clkR tk).1 d m y (clkR tk).2 else if d < 0 ∧ digitsB tk 1 2 = true then Fd.mk t (valueI tk) m y r else if m < 0 ∧ 0 < monthI tk then Fd.mk t d (monthI tk) y r else if y < 0 ∧ digitsB tk 2 4 = true then Fd.mk t d m (valueI tk) r else Fd.mk t d m y r) = ⟨t, d, m, y, r⟩ by simp [e0.out, e1.out, e2.out, hq3])
                replace hst := Lib.hid (hst.out.trans (congrArg (fun z => List.foldl tokStep z ((tokensL s.toList).drop (k + 1))) hT.out))
                have hok2 := hok
                replace hok2 : FdOk ⟨t, d, m, y, r⟩ := by have e := hT.out; rw [← e]; exact hok
                clear hT hok
                go_wp2
                go_roundw
                case rel => exact ⟨k + 1, t, d, m, y, r, m, [h0, m0, s0], A2, c2, by go_num, by omega, rfl, rfl, .inr ⟨rfl, g2m⟩, rfl, rfl, hrt2, .inr ⟨h0, m0, s0, rfl, hb01, hb02, hb03, ht1, hr1⟩, hok2, hrd2, hbel2, hst.out⟩
                case measure => simp [intOf]; omega
            · have e3 := Lib.hid (eq_false g3)
              have hT := Lib.hid (show (if t < 0 ∧ (clockT tk).isSome = true then Fd.mk (clkR tk).1 d m y (clkR tk).2 else if d < 0 ∧ digitsB tk 1 2 = true then Fd.mk t (valueI tk) m y r else if m < 0 ∧ 0 < monthI tk then Fd.mk t d (monthI tk) y r else if y < 0 ∧ digitsB tk 2 4 = true then Fd.mk t d m (valueI tk) r else Fd.mk t d m y r) = ⟨t, d, m, y, r⟩ by simp [e0.out, e1.out, e2.out, e3.out])
              replace hst := Lib.hid (hst.out.trans (congrArg (fun z => List.foldl tokStep z ((tokensL s.toList).drop (k + 1))) hT.out))
              have hok2 := hok
              replace hok2 : FdOk ⟨t, d, m, y, r⟩ := by have e := hT.out; rw [← e]; exact hok
              clear hT hok
              go_wp2
              go_roundw
              case rel => exact ⟨k + 1, t, d, m, y, r, m, [h0, m0, s0], A2, c2, by go_num, by omega, rfl, rfl, .inr ⟨rfl, g2m⟩, rfl, rfl, hrt2, .inr ⟨h0, m0, s0, rfl, hb01, hb02, hb03, ht1, hr1⟩, hok2, hrd2, hbel2, hst.out⟩
              case measure => simp [intOf]; omega
    · have hkn : k = (tokensL s.toList).length := by omega
      have hF := Lib.hid (show dateT s.toList = parseD ⟨t, d, m, y, r⟩ from congrArg parseD (hin.out.trans (by rw [hkn, List.drop_length]; rfl)))
      have hni : decide ((k : Int) < (tokensL s.toList).length) = false := decide_eq_false (by omega)
      clear hin hrd
      rcases htm with ⟨rfl, ht1, hr1⟩ | ⟨h0, m0, s0, rfl, hb01, hb02, hb03, ht1, hr1⟩
      · simp only at ht1 hr1
        have h1 : ¬ 0 ≤ t := by omega
        have hE := Lib.hid (show dateT s.toList = (0, 1) from hF.out.trans (if_pos (by simp [fdFull, h1])))
        clear hF
        go_wp2
        go_ret2
        rw [hE.out]
        exact ⟨rfl, hbel⟩
      · simp only at ht1 hr1
        obtain ⟨b2, off2, rfl, hbl2, hc2⟩ := hrt.at_ (by simp)
        have hq0 : wr.cell? ⟨b2, off2, none⟩ = some (.int .i64 h0) := hc2 0 (by simp)
        have hq1 : wr.cell? ⟨b2, off2 + 1, none⟩ = some (.int .i64 m0) := hc2 1 (by simp)
        have hq2 : wr.cell? ⟨b2, off2 + 2, none⟩ = some (.int .i64 s0) := hc2 2 (by simp)
        clear hc2 hrt
        have h1 : 0 ≤ t := by omega
        by_cases h2 : 0 ≤ d
        · rcases hmm with ⟨g2, g2m⟩ | ⟨g2, g2m⟩
          · subst g2m
            have h3 : ¬ 0 ≤ m := by omega
            have hE := Lib.hid (show dateT s.toList = (0, 1) from hF.out.trans (if_pos (by simp [fdFull, h1, h2, h3])))
            clear hF
            go_wp2
            go_ret2
            rw [hE.out]
            exact ⟨rfl, hbel⟩
          · subst g2
            have h3 : 0 ≤ m := by omega
            have hz0 : (m == 0) = false := beq_eq_false_iff_ne.2 (by omega)
            by_cases h4 : 0 ≤ y
            · by_cases k1 : h0 < 24
              · by_cases k2 : m0 < 60
                · by_cases k3 : s0 < 60
                  · have hrr : r = true := by rw [hr1]; simp [k1, k2, k3]
                    have hfl := Lib.hid (show fdFull ⟨t, d, m, y, r⟩ = true by simp [fdFull, h1, h2, h3, h4])
                    have hF2 := Lib.hid (show dateT s.toList = if rightB (fullI y) m d then (daysI (fullI y) m d * 86400 + t, 0) else (0, 1) from hF.out.trans (by unfold parseD; rw [hfl.out, hrr]; rfl))
                    have hfull : (y < 70 ∧ fullI y = y + 2000) ∨ (¬ y < 70 ∧ y < 100 ∧ fullI y = y + 1900) ∨ (¬ y < 70 ∧ ¬ y < 100 ∧ fullI y = y) := by
                      unfold fullI
                      by_cases c1 : y < 70
                      · exact .inl ⟨c1, if_pos c1⟩
                      · by_cases c2 : y < 100
                        · exact .inr (.inl ⟨c1, c2, by rw [if_neg c1, if_pos c2]⟩)
                        · exact .inr (.inr ⟨c1, c2, by rw [if_neg c1, if_neg c2]⟩)
                    clear hF hfl hrr hr1
                    have hab : ∀ {B : Nat}, b2 < wr.heap.size := hbl2
                    clear hab
                    rcases hfull with ⟨c1, hfe⟩ | ⟨c1, c2, hfe⟩ | ⟨c1, c2, hfe⟩
                    all_goals
                      rw [hfe] at hF2
                      clear hfe
                      cases hR : rightB _ m d with
                      | true =>
                        have hRH := Lib.hid hR
                        have hE := Lib.hid (hF2.out.trans (if_pos hR))
                        obtain ⟨D, hDe, hD1, hD2⟩ := days_split hR
                        have hde := Lib.hid ((refDays_eq hR).trans hDe)
                        rw [hDe] at hE
                        clear hDe
                        have q1 : IntKind.i64.wrap (D * 86400) = D * 86400 := IntWalk.i64_in _ (by omega)
                        have q2 : IntKind.i64.wrap (h0 * 3600) = h0 * 3600 := IntWalk.i64_in _ (by omega)
                        have q3 : IntKind.i64.wrap (D * 86400 + h0 * 3600) = D * 86400 + h0 * 3600 := IntWalk.i64_in _ (by omega)
                        have q4 : IntKind.i64.wrap (m0 * 60) = m0 * 60 := IntWalk.i64_in _ (by omega)
                        have q5 : IntKind.i64.wrap (D * 86400 + h0 * 3600 + m0 * 60) = D * 86400 + h0 * 3600 + m0 * 60 := IntWalk.i64_in _ (by omega)
                        have q6 : IntKind.i64.wrap (D * 86400 + h0 * 3600 + m0 * 60 + s0) = D * 86400 + h0 * 3600 + m0 * 60 + s0 := IntWalk.i64_in _ (by omega)
                        have q7 := Lib.hid (show D * 86400 + h0 * 3600 + m0 * 60 + s0 = D * 86400 + t by omega)
                        clear hF2
                        go_wp2_with fail
                        refine (refRight7_any _ m d _).mono ?_
                        rintro e w2 ⟨rfl, hb2⟩
                        rw [hRH.out]
                        have hbel2 := bel_call hbel hb2
                        have hS : w2.cell? ⟨b2, off2, none⟩ = some (.int .i64 h0) ∧ w2.cell? ⟨b2, off2 + 1, none⟩ = some (.int .i64 m0) ∧ w2.cell? ⟨b2, off2 + 2, none⟩ = some (.int .i64 s0) ∧ b2 < w2.heap.size ∧ Below w.heap.size w w2 :=
                          ⟨(hb2.cell (p := ⟨b2, off2, none⟩) hbl2).trans hq0, (hb2.cell (p := ⟨b2, off2 + 1, none⟩) hbl2).trans hq1, (hb2.cell (p := ⟨b2, off2 + 2, none⟩) hbl2).trans hq2, Nat.lt_of_lt_of_le hbl2 hb2.size, hbel2⟩
                        clear hq0 hq1 hq2 hbl2 hb2 hbel hbel2
                        go_wp2_with fail
                        go_region_held3 (fun w' => w'.cell? ⟨b2, off2, none⟩ = some (.int .i64 h0) ∧ w'.cell? ⟨b2, off2 + 1, none⟩ = some (.int .i64 m0) ∧ w'.cell? ⟨b2, off2 + 2, none⟩ = some (.int .i64 s0) ∧ b2 < w'.heap.size ∧ Below w.heap.size w w')
                          (first | assumption | exact held_call3 hb (by assumption) | exact held_drew3 (by assumption) | exact held_drew3 (held_call3 hb (by assumption)) | exact held_call3 hb (held_drew3 (by assumption)))
                          (first | (go_at_call 96; refine (refDays_any _ m d _ hR).mono ?_; rintro e w3 ⟨rfl, hb⟩; rw [hde.out]))
                        rename_i hfin
                        replace hfin : Below w.heap.size w w3 := hfin.2.2.2.2
                        go_wp2
                        go_ret2
                        rw [hE.out]
                        exact ⟨by rw [← q7.out]; rfl, hfin⟩
                      | false =>
                        have hRH := Lib.hid hR
                        have hE := Lib.hid (hF2.out.trans (if_neg (by rw [hR]; decide)))
                        clear hF2
                        go_wp2_with fail
                        refine (refRight7_any _ m d _).mono ?_
                        rintro e w2 ⟨rfl, hb2⟩
                        rw [hRH.out]
                        have hbel2 := bel_call hbel hb2
                        go_wp2
                        go_ret2
                        rw [hE.out]
                        exact ⟨rfl, hbel2⟩
                  · have hrr : r = false := by rw [hr1]; simp [k3]
                    have hE := Lib.hid (show dateT s.toList = (0, 1) from hF.out.trans (if_pos (by simp [fdFull, hrr])))
                    clear hF
                    go_wp2
                    go_ret2
                    rw [hE.out]
                    exact ⟨rfl, hbel⟩
                · have hrr : r = false := by rw [hr1]; simp [k2]
                  have hE := Lib.hid (show dateT s.toList = (0, 1) from hF.out.trans (if_pos (by simp [fdFull, hrr])))
                  clear hF
                  go_wp2
                  go_ret2
                  rw [hE.out]
                  exact ⟨rfl, hbel⟩
              · have hrr : r = false := by rw [hr1]; simp [k1]
                have hE := Lib.hid (show dateT s.toList = (0, 1) from hF.out.trans (if_pos (by simp [fdFull, hrr])))
                clear hF
                go_wp2
                go_ret2
                rw [hE.out]
                exact ⟨rfl, hbel⟩
            · have hE := Lib.hid (show dateT s.toList = (0, 1) from hF.out.trans (if_pos (by simp [fdFull, h1, h2, h3, h4])))
              clear hF
              go_wp2
              go_ret2
              rw [hE.out]
              exact ⟨rfl, hbel⟩
        · rcases hmm with ⟨g2, g2m⟩ | ⟨g2, g2m⟩
          all_goals
            have hE := Lib.hid (show dateT s.toList = (0, 1) from hF.out.trans (if_pos (by simp [fdFull, h1, h2])))
            clear hF
            go_wp2
            go_ret2
            rw [hE.out]
            exact ⟨rfl, hbel⟩
end Go.Proofs.YtgfoaopfdpclhaaGreatDoor
namespace Go.Proofs.YtgfoaopfdpclhaaGreatDoor
open Go.RowKit
set_option linter.unusedVariables false
set_option maxRecDepth 100000

/-- What attributes say. -/
structure Ff where
  he : Bool
  ha : Bool
  hd : Bool
  hp : Bool
  ex : Int
  ag : Int
  dm : List UInt8
  pt : List UInt8
  sc : Bool
  ho : Bool
def ff0 : Ff := ⟨false, false, false, false, 0, 0, [], [], false, false⟩
def ffC (f : Ff) : Array Value := #[.bool f.he, .bool f.ha, .bool f.hd, .bool f.hp, .int .i64 f.ex, .int .i64 f.ag, .string (S f.dm), .string (S f.pt), .bool f.sc, .bool f.ho]
def exT (f : Ff) (l : List UInt8) : Ff := if (dateT l).2 = 0 then { f with he := true, ex := (dateT l).1 } else f
def agT (f : Ff) (l : List UInt8) : Ff := if numOk l then { f with ha := true, ag := numV l } else f
def dmT (f : Ff) : List UInt8 → Ff
  | [] => f
  | c :: r => { f with hd := true, dm := lowerL (if c == 46 then r else c :: r) }
def ptT (f : Ff) : List UInt8 → Ff
  | [] => { f with hp := false, pt := [] }
  | c :: r => if c == 47 then { f with hp := true, pt := c :: r } else { f with hp := false, pt := [] }
theorem ff_free {w : World} {g : Nat} {t : TypeId} {f : Ff} (h : Blk w g t (ffC f)) : ∀ i, w.frozen? ⟨g, i, none⟩ = false := h.free
theorem ff_cells {w : World} {g : Nat} {t : TypeId} {f : Ff} (h : Blk w g t (ffC f)) :
    w.cell? ⟨g, 0, none⟩ = some (.bool f.he) ∧ w.cell? ⟨g, 1, none⟩ = some (.bool f.ha) ∧ w.cell? ⟨g, 2, none⟩ = some (.bool f.hd) ∧ w.cell? ⟨g, 3, none⟩ = some (.bool f.hp) ∧ w.cell? ⟨g, 4, none⟩ = some (.int .i64 f.ex) ∧ w.cell? ⟨g, 5, none⟩ = some (.int .i64 f.ag) ∧
    w.cell? ⟨g, 6, none⟩ = some (.string (S f.dm)) ∧ w.cell? ⟨g, 7, none⟩ = some (.string (S f.pt)) ∧ w.cell? ⟨g, 8, none⟩ = some (.bool f.sc) ∧ w.cell? ⟨g, 9, none⟩ = some (.bool f.ho) ∧ (∀ i, w.frozen? ⟨g, i, none⟩ = false) :=
  ⟨h.cell 0, h.cell 1, h.cell 2, h.cell 3, h.cell 4, h.cell 5, h.cell 6, h.cell 7, h.cell 8, h.cell 9, h.free⟩
/-- What a step on the fields leaves: the block turned, all else as it was. -/
def FPost (g : Nat) (f : Ff) (w : World) (e : Ending) (w' : World) : Prop := e = .returned (.tuple #[]) ∧ Blk w' g 53 (ffC f) ∧ w.grownBy w' (some g)

set_option maxHeartbeats 2000000 in
theorem expires_any (f : Ff) (g : Nat) (s : ByteArray) (w : World) (hs : s.size ≤ 4294967296) (hm : Mon w) (hK : Blk w g 53 (ffC f)) :
    Calls Tryz.prog 53 #[.pointer (some ⟨g, 0, none⟩), .string s] w (FPost g (exT f s.toList) w) := by
  obtain ⟨c0, c1, c2, c3, c4, c5, c6, c7, c8, c9, cf⟩ := ff_cells hK
  have hgl := hK.lt
  by_cases h0 : (dateT s.toList).2 = 0
  · have hT := Lib.hid (show exT f s.toList = { f with he := true, ex := (dateT s.toList).1 } from if_pos h0)
    obtain ⟨v, hv⟩ : ∃ v, dateT s.toList = (v, 0) := ⟨(dateT s.toList).1, Prod.ext rfl h0⟩
    have hvH := Lib.hid hv
    rw [hv] at hT
    clear hv h0
    go_enter Tryz.func53, Tryz.ntmps53
    go_wp2_with fail
    refine (parseA_any s _ hs hm).mono ?_
    rintro e w1 ⟨rfl, hb1⟩
    rw [hvH.out]
    have hK1 := hK.below hb1
    obtain ⟨c0, c1, c2, c3, c4, c5, c6, c7, c8, c9, cf⟩ := ff_cells hK1
    go_wp2
    rw [hT.out]
    first | refine bodyPost_ret (results_none rfl _ _ _) rfl ?_ | refine bodyPost_end (results_none rfl _ _ _) rfl ?_
    exact ⟨rfl, (hK1.put 0 (.bool true)).put 4 (.int .i64 v), grown_set (grown_set (grown_bel hb1 g) 0 _) 4 _⟩
  · have hT := Lib.hid (show exT f s.toList = f from if_neg h0)
    have hE : dateT s.toList = (0, 1) := by
      rcases (by
        unfold dateT parseD
        by_cases h1 : (!fdFull (fdOf s.toList) || !(fdOf s.toList).r) = true
        · rw [if_pos h1]; exact .inr rfl
        · rw [if_neg h1]
          by_cases h2 : rightB (fullI (fdOf s.toList).y) (fdOf s.toList).m (fdOf s.toList).d = true
          · rw [if_pos h2]; exact .inl rfl
          · rw [if_neg h2]; exact .inr rfl : (dateT s.toList).2 = 0 ∨ dateT s.toList = (0, 1)) with h | h
      · exact absurd h h0
      · exact h
    have hvH := Lib.hid hE
    clear hE h0
    go_enter Tryz.func53, Tryz.ntmps53
    go_wp2_with fail
    refine (parseA_any s _ hs hm).mono ?_
    rintro e w1 ⟨rfl, hb1⟩
    rw [hvH.out]
    have hK1 := hK.below hb1
    go_wp2
    rw [hT.out]
    first | refine bodyPost_ret (results_none rfl _ _ _) rfl ?_ | refine bodyPost_end (results_none rfl _ _ _) rfl ?_
    exact ⟨rfl, hK1, grown_bel hb1 g⟩

set_option maxHeartbeats 2000000 in
theorem age_any (f : Ff) (g : Nat) (s : ByteArray) (w : World) (hs : s.size ≤ maxLen) (hK : Blk w g 53 (ffC f)) :
    Calls Tryz.prog 54 #[.pointer (some ⟨g, 0, none⟩), .string s] w (FPost g (agT f s.toList) w) := by
  obtain ⟨c0, c1, c2, c3, c4, c5, c6, c7, c8, c9, cf⟩ := ff_cells hK
  have hgl := hK.lt
  have hb0 := Below.refl w.heap.size w
  cases h0 : numOk s.toList
  · have hT := Lib.hid (show agT f s.toList = f from if_neg (by rw [h0]; decide))
    have hH := Lib.hid h0
    clear h0
    go_enter Tryz.func54, Tryz.ntmps54
    go_wp2_with fail
    refine (number_any s _ hs).mono ?_
    rintro e w' ⟨rfl, rfl⟩
    rw [hH.out]
    go_wp2
    rw [hT.out]
    first | refine bodyPost_ret (results_none rfl _ _ _) rfl ?_ | refine bodyPost_end (results_none rfl _ _ _) rfl ?_
    exact ⟨rfl, hK, grown_bel hb0 g⟩
  · have hT := Lib.hid (show agT f s.toList = { f with ha := true, ag := numV s.toList } from if_pos h0)
    have hH := Lib.hid h0
    clear h0
    go_enter Tryz.func54, Tryz.ntmps54
    go_wp2_with fail
    refine (number_any s _ hs).mono ?_
    rintro e w' ⟨rfl, rfl⟩
    rw [hH.out]
    generalize numV s.toList = v at *
    go_wp2
    rw [hT.out]
    first | refine bodyPost_ret (results_none rfl _ _ _) rfl ?_ | refine bodyPost_end (results_none rfl _ _ _) rfl ?_
    exact ⟨rfl, (hK.put 1 (.bool true)).put 5 (.int .i64 v), grown_set (grown_set (grown_bel hb0 g) 1 _) 5 _⟩

set_option maxHeartbeats 2000000 in
theorem domain_any (f : Ff) (g : Nat) (s : ByteArray) (w : World) (hs : s.size ≤ 4294967296) (hK : Blk w g 53 (ffC f)) :
    Calls Tryz.prog 55 #[.pointer (some ⟨g, 0, none⟩), .string s] w (FPost g (dmT f s.toList) w) := by
  rw [← S_of s]
  have hl0 : s.toList.length ≤ 4294967296 := by rw [← size_toList]; exact hs
  rw [S_toList]
  generalize s.toList = l at *
  clear hs
  have hgl := hK.lt
  have hb0 := Below.refl w.heap.size w
  cases l with
  | nil =>
    go_enter Tryz.func55, Tryz.ntmps55
    go_wp2
    first | refine bodyPost_ret (results_none rfl _ _ _) rfl ?_ | refine bodyPost_end (results_none rfl _ _ _) rfl ?_
    exact ⟨rfl, hK, grown_bel hb0 g⟩
  | cons c r =>
    have hg0 := S_get0 c r
    have hsz : (S (c :: r)).size ≤ 4294967296 := by rw [S_size]; exact hl0
    have hsz2 : (S r).size ≤ 4294967296 := by rw [S_size]; simp at hl0; omega
    cases h46 : (c == 46) with
    | true =>
      have hT := Lib.hid (show dmT f (c :: r) = { f with hd := true, dm := lowerL r } by simp only [dmT, h46, if_true])
      have hne : ((c.toNat : Int) == 46) = true := by rw [eqc (i := 46) 46 rfl]; exact h46
      have hx := Lib.hid (extract_S1 c r)
      clear h46
      go_enter Tryz.func55, Tryz.ntmps55
      go_wp2_with fail
      rw [hx.out]
      refine (lowerA_any _ _ hsz2).mono ?_
      rintro e w1 ⟨rfl, hb1⟩
      rw [S_toList]
      have hK1 := hK.below hb1
      obtain ⟨c0, c1, c2, c3, c4, c5, c6, c7, c8, c9, cf⟩ := ff_cells hK1
      go_wp2
      rw [hT.out]
      first | refine bodyPost_ret (results_none rfl _ _ _) rfl ?_ | refine bodyPost_end (results_none rfl _ _ _) rfl ?_
      exact ⟨rfl, (hK1.put 2 (.bool true)).put 6 (.string (S (lowerL r))), grown_set (grown_set (grown_bel hb1 g) 2 _) 6 _⟩
    | false =>
      have hT := Lib.hid (show dmT f (c :: r) = { f with hd := true, dm := lowerL (c :: r) } by simp only [dmT, h46, Bool.false_eq_true, if_false])
      have hne : ((c.toNat : Int) == 46) = false := by rw [eqc (i := 46) 46 rfl]; exact h46
      clear h46
      go_enter Tryz.func55, Tryz.ntmps55
      go_wp2_with fail
      refine (lowerA_any _ _ hsz).mono ?_
      rintro e w1 ⟨rfl, hb1⟩
      rw [S_toList]
      have hK1 := hK.below hb1
      obtain ⟨c0, c1, c2, c3, c4, c5, c6, c7, c8, c9, cf⟩ := ff_cells hK1
      go_wp2
      rw [hT.out]
      first | refine bodyPost_ret (results_none rfl _ _ _) rfl ?_ | refine bodyPost_end (results_none rfl _ _ _) rfl ?_
      exact ⟨rfl, (hK1.put 2 (.bool true)).put 6 (.string (S (lowerL (c :: r)))), grown_set (grown_set (grown_bel hb1 g) 2 _) 6 _⟩

set_option maxHeartbeats 2000000 in
theorem path_any (f : Ff) (g : Nat) (s : ByteArray) (w : World) (hK : Blk w g 53 (ffC f)) :
    Calls Tryz.prog 56 #[.pointer (some ⟨g, 0, none⟩), .string s] w (FPost g (ptT f s.toList) w) := by
  rw [← S_of s]
  rw [S_toList]
  generalize s.toList = l at *
  obtain ⟨c0, c1, c2, c3, c4, c5, c6, c7, c8, c9, cf⟩ := ff_cells hK
  have hgl := hK.lt
  have hb0 := Below.refl w.heap.size w
  cases l with
  | nil =>
    go_enter Tryz.func56, Tryz.ntmps56
    go_wp2
    first | refine bodyPost_ret (results_none rfl _ _ _) rfl ?_ | refine bodyPost_end (results_none rfl _ _ _) rfl ?_
    exact ⟨rfl, (hK.put 3 (.bool false)).put 7 (.string (S [])), grown_set (grown_set (grown_bel hb0 g) 3 _) 7 _⟩
  | cons c r =>
    have hg0 := S_get0 c r
    cases h47 : (c == 47) with
    | true =>
      have hT := Lib.hid (show ptT f (c :: r) = { f with hp := true, pt := c :: r } by simp only [ptT, h47, if_true])
      have hne : ((c.toNat : Int) == 47) = true := by rw [eqc (i := 47) 47 rfl]; exact h47
      clear h47
      go_enter Tryz.func56, Tryz.ntmps56
      go_wp2
      rw [hT.out]
      first | refine bodyPost_ret (results_none rfl _ _ _) rfl ?_ | refine bodyPost_end (results_none rfl _ _ _) rfl ?_
      exact ⟨rfl, ((hK.put 3 (.bool true)).put 7 (.string (S []))).put 7 (.string (S (c :: r))), grown_set (grown_set (grown_set (grown_bel hb0 g) 3 _) 7 _) 7 _⟩
    | false =>
      have hT := Lib.hid (show ptT f (c :: r) = { f with hp := false, pt := [] } by simp only [ptT, h47, Bool.false_eq_true, if_false])
      have hne : ((c.toNat : Int) == 47) = false := by rw [eqc (i := 47) 47 rfl]; exact h47
      clear h47
      go_enter Tryz.func56, Tryz.ntmps56
      go_wp2
      rw [hT.out]
      first | refine bodyPost_ret (results_none rfl _ _ _) rfl ?_ | refine bodyPost_end (results_none rfl _ _ _) rfl ?_
      exact ⟨rfl, (hK.put 3 (.bool false)).put 7 (.string (S [])), grown_set (grown_set (grown_bel hb0 g) 3 _) 7 _⟩
end Go.Proofs.YtgfoaopfdpclhaaGreatDoor
namespace Go.Proofs.YtgfoaopfdpclhaaGreatDoor
open Go.RowKit
set_option linter.unusedVariables false
set_option maxRecDepth 100000

def exL : List UInt8 := [101, 120, 112, 105, 114, 101, 115]
def agL : List UInt8 := [109, 97, 120, 45, 97, 103, 101]
def dmL : List UInt8 := [100, 111, 109, 97, 105, 110]
def ptL : List UInt8 := [112, 97, 116, 104]
def scL : List UInt8 := [115, 101, 99, 117, 114, 101]
def hoL : List UInt8 := [104, 116, 116, 112, 111, 110, 108, 121]
def sayT (f : Ff) (p : List UInt8 × List UInt8) : Ff :=
  if lowerL p.1 == exL then exT f p.2
  else if lowerL p.1 == agL then agT f p.2
  else if lowerL p.1 == dmL then dmT f p.2
  else if lowerL p.1 == ptL then ptT f p.2
  else if lowerL p.1 == scL then { f with sc := true }
  else if lowerL p.1 == hoL then { f with ho := true }
  else f
def readT (l : List (List UInt8 × List UInt8)) : Ff := l.foldl sayT ff0
theorem grown_more {w w1 w2 : World} {g : Nat} (hb : Below w.heap.size w w1) (hg : w1.grownBy w2 (some g)) : w.grownBy w2 (some g) :=
  ⟨hg.os.trans hb.os, hg.tape.trans hb.tape, hg.output.trans hb.output, Nat.le_trans hb.size hg.size, fun k hk hne => (hg.block k (Nat.lt_of_lt_of_le hk hb.size) hne).trans (hb.block k hk)⟩

set_option maxRecDepth 4000 in
set_option maxHeartbeats 4000000 in
theorem say_any (f : Ff) (g bp : Nat) (a b : List UInt8) (w : World) (ha : a.length ≤ 4294967296) (hb : b.length ≤ 4294967296) (hm : Mon w) (hK : Blk w g 53 (ffC f)) (hp : w.cell? ⟨bp, 0, none⟩ = some (.pointer (some ⟨g, 0, none⟩))) (hbp : bp < w.heap.size) :
    Calls Tryz.prog 51 #[.agg #[.string (S a), .string (S b)], .pointer (some ⟨bp, 0, none⟩)] w (FPost g (sayT f (a, b)) w) := by
  have hgl := hK.lt
  have hsa : (S a).size ≤ 4294967296 := by rw [S_size]; exact ha
  have hsb : (S b).size ≤ 4294967296 := by rw [S_size]; exact hb
  have hsb2 : (S b).size ≤ maxLen := by rw [S_size]; unfold maxLen; omega
  go_enter Tryz.func51, Tryz.ntmps51
  go_wp2_with fail
  refine (lowerA_any _ _ hsa).mono ?_
  rintro e w1 ⟨rfl, hb1⟩
  rw [S_toList]
  have hB := Blk.new_ w 47 #[.string (S a), .string (S b)]
  have hB1 := hB.below hb1
  have hK1 := (hK.alloc (.cells #[.string (S a), .string (S b)] 47)).below hb1
  have hbel1 := bel_call (bel_alloc (Below.refl w.heap.size w) (.cells #[.string (S a), .string (S b)] 47)) hb1
  have hp1 : w1.cell? ⟨bp, 0, none⟩ = some (.pointer (some ⟨g, 0, none⟩)) := (hbel1.cell (p := ⟨bp, 0, none⟩) hbp).trans hp
  have hb10 : w1.cell? ⟨w.heap.size, 0, none⟩ = some (.string (S a)) := hB1.cell 0
  have hb11 : w1.cell? ⟨w.heap.size, 1, none⟩ = some (.string (S b)) := hB1.cell 1
  have hm1 := hm.next hbel1
  clear hB hB1 hb1 hp hm
  have hT0 := Lib.hid (show sayT f (a, b) = if lowerL a == exL then exT f b
  else if lowerL a == agL then agT f b
  else if lowerL a == dmL then dmT f b
  else if lowerL a == ptL then ptT f b
  else if lowerL a == scL then { f with sc := true }
  else if lowerL a == hoL then { f with ho := true }
  else f from rfl)
  generalize lowerL a = n at *
  cases k0 : (n == exL) with
  | true =>
    have q0 : (n == [101, 120, 112, 105, 114, 101, 115]) = true := k0
    have hT := Lib.hid (hT0.out.trans (by simp only [k0, if_true]; try rfl))
    clear hT0 k0
    go_wp2_with fail
    refine (expires_any f g (S b) w1 hsb hm1 hK1).mono ?_
    rintro e w2 ⟨rfl, hK2, hg2⟩
    rw [S_toList] at hK2
    go_wp2
    rw [hT.out]
    first | refine bodyPost_ret (results_none rfl _ _ _) rfl ?_ | refine bodyPost_end (results_none rfl _ _ _) rfl ?_
    exact ⟨rfl, hK2, grown_more hbel1 hg2⟩
  | false =>
    have q0 : (n == [101, 120, 112, 105, 114, 101, 115]) = false := k0
    cases k1 : (n == agL) with
    | true =>
      have q1 : (n == [109, 97, 120, 45, 97, 103, 101]) = true := k1
      have hT := Lib.hid (hT0.out.trans (by simp only [k0, k1, Bool.false_eq_true, if_false, if_true]; try rfl))
      clear hT0 k1
      go_wp2_with fail
      refine (age_any f g (S b) w1 hsb2 hK1).mono ?_
      rintro e w2 ⟨rfl, hK2, hg2⟩
      rw [S_toList] at hK2
      go_wp2
      rw [hT.out]
      first | refine bodyPost_ret (results_none rfl _ _ _) rfl ?_ | refine bodyPost_end (results_none rfl _ _ _) rfl ?_
      exact ⟨rfl, hK2, grown_more hbel1 hg2⟩
    | false =>
      have q1 : (n == [109, 97, 120, 45, 97, 103, 101]) = false := k1
      cases k2 : (n == dmL) with
      | true =>
        have q2 : (n == [100, 111, 109, 97, 105, 110]) = true := k2
        have hT := Lib.hid (hT0.out.trans (by simp only [k0, k1, k2, Bool.false_eq_true, if_false, if_true]; try rfl))
        clear hT0 k2
        go_wp2_with fail
        refine (domain_any f g (S b) w1 hsb hK1).mono ?_
        rintro e w2 ⟨rfl, hK2, hg2⟩
        rw [S_toList] at hK2
        go_wp2
        rw [hT.out]
        first | refine bodyPost_ret (results_none rfl _ _ _) rfl ?_ | refine bodyPost_end (results_none rfl _ _ _) rfl ?_
        exact ⟨rfl, hK2, grown_more hbel1 hg2⟩
      | false =>
        have q2 : (n == [100, 111, 109, 97, 105, 110]) = false := k2
        cases k3 : (n == ptL) with
        | true =>
          have q3 : (n == [112, 97, 116, 104]) = true := k3
          have hT := Lib.hid (hT0.out.trans (by simp only [k0, k1, k2, k3, Bool.false_eq_true, if_false, if_true]; try rfl))
          clear hT0 k3
          go_wp2_with fail
          refine (path_any f g (S b) w1 hK1).mono ?_
          rintro e w2 ⟨rfl, hK2, hg2⟩
          rw [S_toList] at hK2
          go_wp2
          rw [hT.out]
          first | refine bodyPost_ret (results_none rfl _ _ _) rfl ?_ | refine bodyPost_end (results_none rfl _ _ _) rfl ?_
          exact ⟨rfl, hK2, grown_more hbel1 hg2⟩
        | false =>
          have q3 : (n == [112, 97, 116, 104]) = false := k3
          cases k4 : (n == scL) with
          | true =>
            have q4 : (n == [115, 101, 99, 117, 114, 101]) = true := k4
            have hT := Lib.hid (hT0.out.trans (by simp only [k0, k1, k2, k3, k4, Bool.false_eq_true, if_false, if_true]; try rfl))
            clear hT0 k4
            have hgl1 := hK1.lt
            obtain ⟨c0, c1, c2, c3, c4, c5, c6, c7, c8, c9, cf⟩ := ff_cells hK1
            go_wp2
            rw [hT.out]
            first | refine bodyPost_ret (results_none rfl _ _ _) rfl ?_ | refine bodyPost_end (results_none rfl _ _ _) rfl ?_
            exact ⟨rfl, hK1.put 8 (.bool true), grown_set (grown_bel hbel1 g) 8 _⟩
          | false =>
            have q4 : (n == [115, 101, 99, 117, 114, 101]) = false := k4
            cases k5 : (n == hoL) with
            | true =>
              have q5 : (n == [104, 116, 116, 112, 111, 110, 108, 121]) = true := k5
              have hT := Lib.hid (hT0.out.trans (by simp only [k0, k1, k2, k3, k4, k5, Bool.false_eq_true, if_false, if_true]; try rfl))
              clear hT0 k5
              have hgl1 := hK1.lt
              obtain ⟨c0, c1, c2, c3, c4, c5, c6, c7, c8, c9, cf⟩ := ff_cells hK1
              go_wp2
              rw [hT.out]
              first | refine bodyPost_ret (results_none rfl _ _ _) rfl ?_ | refine bodyPost_end (results_none rfl _ _ _) rfl ?_
              exact ⟨rfl, hK1.put 9 (.bool true), grown_set (grown_bel hbel1 g) 9 _⟩
            | false =>
              have q5 : (n == [104, 116, 116, 112, 111, 110, 108, 121]) = false := k5
              have hT := Lib.hid (show sayT f (a, b) = f from hT0.out.trans (by simp only [k0, k1, k2, k3, k4, k5, Bool.false_eq_true, if_false]))
              clear hT0
              go_wp2
              rw [hT.out]
              first | refine bodyPost_ret (results_none rfl _ _ _) rfl ?_ | refine bodyPost_end (results_none rfl _ _ _) rfl ?_
              exact ⟨rfl, hK1, grown_bel hbel1 g⟩
end Go.Proofs.YtgfoaopfdpclhaaGreatDoor
