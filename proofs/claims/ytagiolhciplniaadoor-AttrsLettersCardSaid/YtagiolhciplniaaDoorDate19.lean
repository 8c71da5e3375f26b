/-
  The reference's parser walked, third part: times.
-/
import Derived.Test.YtagiolhciplniaaDoorDate18
namespace Go.Proofs.YtagiolhciplniaaDoor
open Go.RowKit
set_option linter.unusedVariables false

theorem infoInt : (Tryd.prog.info? 3).map (fun i => (i.zero, i.size, i.bytes)) = some (some (.int .i64 0), 1, 8) := by kernel_rfl
def intV (n : Int) : Value := .int .i64 n
def clkF : Nat → List UInt8 → List Int → Option (List Int)
  | 0, _, acc => some acc
  | r + 1, l, acc =>
    if digitsB l 1 2 then
      if decide (r = 0) || colB (l.drop (digN l)) then clkF r ((l.drop (digN l)).drop 1) (acc ++ [valueI l]) else none
    else none
def timeL (l : List UInt8) : Option (List Int) := clkF 3 l []
theorem field_dig {l : List UInt8} (h : digitsB l 1 2 = true) : fieldT l 1 2 = (valueI l, l.drop (digN l), true) := by
  unfold fieldT
  unfold digitsB at h
  simp only [Bool.and_eq_true, decide_eq_true_eq] at h
  rw [if_neg (by omega)]; rfl
theorem field_nod {l : List UInt8} (h : digitsB l 1 2 = false) : (fieldT l 1 2).2.2 = false := by rw [digits_field]; exact h
theorem value_bd {l : List UInt8} (h : digitsB l 1 2 = true) : 0 ≤ valueI l ∧ valueI l ≤ 99 := by
  have e := field_dig h
  have := field_bd (l := l) (by rw [e])
  rw [e] at this
  exact this
theorem value_bd4 {l : List UInt8} (h : digitsB l 2 4 = true) : 0 ≤ valueI l ∧ valueI l ≤ 9999 := by
  have hf : (fieldT l 2 4).2.2 = true := by rw [digits_field]; exact h
  have := field_bd4 hf
  obtain ⟨_, _, e, _⟩ := field_eq hf
  rw [e] at this
  exact this
theorem clkF_no {r : Nat} {l : List UInt8} {acc : List Int} (h : digitsB l 1 2 = false) : clkF (r + 1) l acc = none := by
  rw [clkF, if_neg (by rw [h]; decide)]
theorem clkF_col {r : Nat} {l : List UInt8} {acc : List Int} (hr : r ≠ 0) (h : colB (l.drop (digN l)) = false) : clkF (r + 1) l acc = none := by
  rw [clkF]
  split
  · rw [if_neg (by rw [h]; simp [hr])]
  · rfl
theorem clkF_go {r : Nat} {l : List UInt8} {acc : List Int} (h : digitsB l 1 2 = true) (hr : r = 0 ∨ colB (l.drop (digN l)) = true) : clkF (r + 1) l acc = clkF r ((l.drop (digN l)).drop 1) (acc ++ [valueI l]) := by
  rw [clkF, if_pos h, if_pos (by rcases hr with h | h <;> simp [h])]

/-- A clock, told twice. -/
theorem clock_time (l : List UInt8) : (timeL l = none ∧ clockT l = none) ∨
    (∃ h m s, timeL l = some [h, m, s] ∧ (0 ≤ h ∧ h ≤ 99) ∧ (0 ≤ m ∧ m ≤ 99) ∧ (0 ≤ s ∧ s ≤ 99) ∧ clockT l = some (h * 3600 + m * 60 + s, decide (h < 24) && decide (m < 60) && decide (s < 60))) := by
  unfold timeL clockT
  have key : ∀ (r : Nat) (l : List UInt8) (o : Int) (rt : Bool) (acc : List Int), (clkF (r + 1) l acc = none ∧ clkGo (r + 1) l o rt = none) ∨
      (∃ R, digitsB l 1 2 = true ∧ clkF (r + 1) l acc = clkF r R (acc ++ [valueI l]) ∧ clkGo (r + 1) l o rt = clkGo r R (o * 60 + valueI l) (rt && decide (valueI l < 60) && (decide (r < 2) || decide (valueI l < 24)))) := by
    intro r l o rt acc
    cases hd : digitsB l 1 2
    · exact .inl ⟨clkF_no hd, clk_no (field_nod hd)⟩
    · have e := field_dig hd
      by_cases hr : r = 0
      · exact .inr ⟨_, rfl, clkF_go hd (.inl hr), by rw [clk_go (by rw [e]) (.inl hr), e]⟩
      · cases hc : colB (l.drop (digN l))
        · exact .inl ⟨clkF_col hr hc, clk_col hr (by rw [e]; exact hc)⟩
        · exact .inr ⟨_, rfl, clkF_go hd (.inr hc), by rw [clk_go (by rw [e]) (.inr (by rw [e]; exact hc)), e]⟩
  rcases key 2 l 0 true [] with h | ⟨R1, d1, e1, g1⟩
  · exact .inl h
  rw [e1, g1]
  rcases key 1 R1 _ _ _ with h | ⟨R2, d2, e2, g2⟩
  · exact .inl h
  rw [e2, g2]
  rcases key 0 R2 _ _ _ with h | ⟨R3, d3, e3, g3⟩
  · exact .inl h
  rw [e3, g3, clkF, clkGo]
  have b1 := value_bd d1
  have b2 := value_bd d2
  have b3 := value_bd d3
  generalize valueI l = h at *
  generalize valueI R1 = m at *
  generalize valueI R2 = s at *
  refine .inr ⟨h, m, s, rfl, b1, b2, b3, ?_⟩
  congr 2
  · omega
  · by_cases c1 : h < 24
    · have c2 : h < 60 := by omega
      simp [c1, c2]
    · simp [c1]

set_option maxRecDepth 4000 in
set_option maxHeartbeats 4000000 in
theorem refTime_any (s : ByteArray) (w : World) (hs : s.size ≤ 4294967296) :
    Calls Tryd.prog 38 #[.string s] w fun e w' => ∃ A cp, e = .returned (.tuple #[.slice A ((timeL s.toList).getD []).length cp, .bool (timeL s.toList).isSome]) ∧
      w'.ownsRow w.heap.size 3 1 (.slice A ((timeL s.toList).getD []).length cp) ((timeL s.toList).getD []).length (((timeL s.toList).getD []).map intV) ∧ Below w.heap.size w w' := by
  rw [← S_of s]
  have hl0 : s.toList.length ≤ 4294967296 := by rw [← size_toList]; exact hs
  rw [S_toList]
  generalize s.toList = l0 at *
  clear hs
  obtain ⟨i0, hi, hz0, hz1, hz2⟩ := info_parts infoInt
  go_enter Tryd.func38, Tryd.ntmps38
  go_wp2
  go_loopw [0, 4, 5] (fun vs v vk wr => ∃ (r : Nat) (l : List UInt8) (acc : List Int), vs = .string (S l) ∧ vk = .int .i64 (3 - (r : Int)) ∧ (r = 1 ∨ r = 2 ∨ r = 3) ∧ l.length ≤ 4294967296 ∧ acc.length + r = 3 ∧ wr.ownsRow w.heap.size 3 1 v acc.length (acc.map intV) ∧ Below w.heap.size w wr ∧ w.heap.size ≤ wr.heap.size ∧ Hid (timeL l0 = clkF r l acc)) (fun _ _ k _ => (3 - intOf k).toNat)
  case atStart => exact ⟨3, l0, [], rfl, rfl, .inr (.inr rfl), hl0, rfl, World.ownsRow_lit w #[] 0 (Nat.le_refl _) (by unfold maxLen; omega) rfl, (Below.refl _ _).alloc (Nat.le_refl _) _, by simp, rfl⟩
  case round =>
    obtain ⟨r, l, acc, rfl, rfl, hr, hll, hal, hown, hbel, hsz, hch⟩ := hrel
    clear hl0
    have hz : (S l).size ≤ maxLen := by rw [S_size]; unfold maxLen; omega
    have hrb : (1 : Int) ≤ r ∧ (r : Int) ≤ 3 := by omega
    obtain ⟨hrb1, hrb2⟩ := hrb
    obtain ⟨r', rfl⟩ : ∃ r', r = r' + 1 := ⟨r - 1, by omega⟩
    cases hd : digitsB l 1 2 with
    | false =>
      have hno := Lib.hid (hch.out.trans (clkF_no hd))
      have hD := Lib.hid hd
      clear hd hch
      go_wp2_with fail
      refine (refDigits7_any (S l) 1 2 _ hz).mono ?_
      rintro e w' ⟨rfl, rfl⟩
      rw [S_toList, hD.out]
      go_wp2
      go_ret2
      rw [hno.out]
      exact ⟨none, 0, rfl, World.ownsRow_nil _ _ _ _, hbel⟩
    | true =>
      have hvb := value_bd hd
      have hdl := digN_le l
      have hD := Lib.hid hd
      have hx1 := Lib.hid (show (S l).extract (digN l + 1) l.length = S ((l.drop (digN l)).drop 1) by
        rw [show l.length = (S l).size from (S_size l).symm, extract_from, S_toList, List.drop_drop])
      have h2 := Lib.hid (fun (h : r' ≠ 0) (h' : colB (l.drop (digN l)) = false) => hch.out.trans (clkF_col h h'))
      have h3 := Lib.hid (fun (h : r' = 0 ∨ colB (l.drop (digN l)) = true) => hch.out.trans (clkF_go hd h))
      have hg0 := Lib.hid (fun (h : digN l < (S l).size) => get_l (S l) (digN l) h)
      have hcol := Lib.hid (show colB (l.drop (digN l)) = (decide (digN l < l.length) && (l.getD (digN l) 0 == 58)) by
        by_cases hlt : digN l < l.length
        · rw [drop_getD l _ hlt, colB_cons, decide_eq_true hlt, Bool.true_and]
        · rw [List.drop_of_length_le (by omega), decide_eq_false hlt]; rfl)
      clear hd hch
      go_wp2_with fail
      refine (refDigits7_any (S l) 1 2 _ hz).mono ?_
      rintro e w' ⟨rfl, rfl⟩
      rw [S_toList, hD.out]
      go_wp2_with fail
      refine (refDigits_any (S l) _ hz).mono ?_
      rintro e w' ⟨rfl, rfl⟩
      rw [S_toList]
      go_wp2_with fail
      refine (value_any (S l) _ hz).mono ?_
      rintro e w' ⟨rfl, rfl⟩
      rw [S_toList]
      generalize valueI l = n at *
      go_wp2_with (first
        | (at_builtin; refine wpList_push rfl _ _ 54 rfl w.heap.size 3 i0 (.int .i64 0) 1 8 Tryd.underlying54 hi hz0 hz1 hz2 rfl (by decide) _ _ _ rfl hown _ _ rfl rfl rfl ?c1 ?c2 ?c3 hsz hbel ?_))
      case c1 => exact rfl
      case c2 => unfold maxLen; omega
      case c3 => omega
      intro v' w' hown' hg hbel' hsz2
      replace hown' : w'.ownsRow w.heap.size 3 1 v' (acc ++ [n]).length ((acc ++ [n]).map intV) := by
        rw [List.map_append, List.length_append]; exact hown'
      clear hown hbel hg
      generalize digN l = dn at *
      by_cases hr0 : r' = 0
      · subst hr0
        have hsome := Lib.hid ((h3.out (.inl rfl)).trans (show clkF 0 _ _ = some (acc ++ [n]) from rfl))
        clear h2 h3 hg0 hcol hx1
        obtain ⟨A, cp, rfl⟩ := own_form hown'
        go_wp2
        go_ret2
        rw [hsome.out]
        have hl3 : (acc ++ [n]).length = 3 := by simp; omega
        refine ⟨A, cp, ?_, hown', hbel'⟩
        show _ = Ending.returned (Value.tuple #[Value.slice A (acc ++ [n]).length cp, _])
        rw [hl3]
        rfl
      · have hr1 : ((3 : Int) - ((r' + 1 : Nat) : Int) == 2) = false := beq_eq_false_iff_ne.2 (by omega)
        by_cases hlt : dn < l.length
        · have hlt2 : dn < (S l).size := by rw [S_size]; exact hlt
          have hb0 := Lib.hid (hg0.out hlt2)
          have hne1 : ((l.length : Int) == dn) = false := beq_eq_false_iff_ne.2 (by omega)
          have hlti : (dn : Int) < l.length := by omega
          have hlti2 : (dn : Int) + 1 ≤ l.length := by omega
          rw [decide_eq_true hlt, Bool.true_and] at hcol
          cases h58 : (l.getD dn 0 == 58) with
          | false =>
            have hno := Lib.hid (h2.out hr0 (hcol.out.trans h58))
            have hx : (((S l)[dn].toNat : Int) != 58) = true := by rw [nec (i := 58) 58 rfl, hb0.out, S_toList, h58]; rfl
            clear h2 h3 hg0 hcol hx1 h58
            go_wp2
            go_ret2
            rw [hno.out]
            exact ⟨none, 0, rfl, World.ownsRow_nil _ _ _ _, hbel'⟩
          | true =>
            have hgo := Lib.hid (h3.out (.inr (hcol.out.trans h58)))
            have hx : (((S l)[dn].toNat : Int) != 58) = false := by rw [nec (i := 58) 58 rfl, hb0.out, S_toList, h58]; rfl
            clear h2 h3 hg0 hcol h58
            go_wp2
            rw [hx1.out]
            go_roundw
            case rel => exact ⟨r', (l.drop dn).drop 1, acc ++ [n], rfl, by congr 1; omega, by omega, by simp; omega, by simp; omega, hown', hbel', hsz2, hgo.out⟩
            case measure => simp [intOf]; omega
        · have hno := Lib.hid (h2.out hr0 (hcol.out.trans (by rw [decide_eq_false hlt]; rfl)))
          have hne1 : ((l.length : Int) == dn) = true := by rw [beq_iff_eq]; omega
          clear h2 h3 hg0 hcol hx1
          go_wp2
          go_ret2
          rw [hno.out]
          exact ⟨none, 0, rfl, World.ownsRow_nil _ _ _ _, hbel'⟩
end Go.Proofs.YtagiolhciplniaaDoor
