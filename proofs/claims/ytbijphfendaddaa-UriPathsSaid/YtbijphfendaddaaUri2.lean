/-
  The walks of package uri: names, ports, schemes, beginnings.
-/
import Derived.Test.YtbijphfendaddaaUri1
namespace Go.Proofs.Ytbijphfendaddaa
open Go.RowKit
set_option linter.unusedVariables false

set_option maxRecDepth 100000 in
set_option maxHeartbeats 1000000 in
theorem uname_any (l : List UInt8) (w : World) (hl : l.length ≤ 4294967280) (ha : ∀ b ∈ l, b.toNat < 128) :
    Calls Try.prog 46 #[.string (S l)] w fun e w' => e = .returned (.tuple #[.string (S (l.take (nameK l))), .string (S (l.drop (nameK l)))]) ∧ Below w.heap.size w w' := by
  have hz : (S l).size ≤ maxLen := by rw [S_size]; unfold maxLen; omega
  have hz1 : (ByteArray.mk #[91]).size ≤ maxLen := by decide
  cases hp : Lib.hasPrefix l [91]
  · have hpH := Lib.hid hp
    have hT := Lib.hid (show nameK l = findAny l [58] by unfold nameK; rw [hp]; rfl)
    clear hp
    go_enter Try.func46, Try.ntmps46
    go_wp2_with fail
    refine (hasPrefix_any (S l) _ _ hz hz1).mono ?_
    rintro e w' ⟨rfl, rfl⟩
    rw [S_toList, show (ByteArray.mk #[91]).toList = [91] from S_toList [91], hpH.out]
    go_wp2_with fail
    refine (usplit_any l [58] _ hl ha (by decide) (by decide)).mono ?_
    rintro e w1 ⟨rfl, hb⟩
    go_wp2
    go_ret2
    rw [hT.out]
    exact ⟨rfl, hb⟩
  · have hpH := Lib.hid hp
    rcases hc : cutL l 93 with _ | ⟨a, b⟩
    · have hT := Lib.hid (show l.take (nameK l) = l ∧ l.drop (nameK l) = [] by
        have : nameK l = l.length := by unfold nameK; rw [hp, hc]; rfl
        rw [this, List.take_length, List.drop_length]
        exact ⟨rfl, rfl⟩)
      have hcH := Lib.hid (show cutL (S l).toList 93 = none by rw [S_toList]; exact hc)
      clear hp hc ha
      go_enter Try.func46, Try.ntmps46
      go_wp2_with fail
      refine (hasPrefix_any (S l) _ _ hz hz1).mono ?_
      rintro e w' ⟨rfl, rfl⟩
      rw [S_toList, show (ByteArray.mk #[91]).toList = [91] from S_toList [91], hpH.out]
      go_wp2_with fail
      refine (cut_any_none (S l) 93 _ hz hcH.out).mono ?_
      rintro e w' ⟨rfl, rfl⟩
      go_wp2
      go_ret2
      rw [hT.out.1, hT.out.2]
      exact ⟨rfl, Below.refl _ _⟩
    · obtain ⟨-, -, -, c4, -⟩ := cut_some hc
      simp only at c4
      have hT := Lib.hid (show l.take (nameK l) = a ++ [93] ∧ l.drop (nameK l) = b by
        have : nameK l = a.length + 1 := by unfold nameK; rw [hp, hc]; rfl
        rw [this, c4]
        constructor
        · rw [List.take_append, List.take_of_length_le (by omega), show a.length + 1 - a.length = 1 by omega]; rfl
        · rw [List.drop_append, List.drop_of_length_le (by omega), show a.length + 1 - a.length = 1 by omega]; rfl)
      have hcH := Lib.hid (show cutL (S l).toList 93 = some (a, b) by rw [S_toList]; exact hc)
      have hal : (a.length : Int) + 1 ≤ 9223372036854775807 := by
        have := congrArg List.length c4
        simp at this
        omega
      clear hp hc c4 ha
      go_enter Try.func46, Try.ntmps46
      go_wp2_with fail
      refine (hasPrefix_any (S l) _ _ hz hz1).mono ?_
      rintro e w' ⟨rfl, rfl⟩
      rw [S_toList, show (ByteArray.mk #[91]).toList = [91] from S_toList [91], hpH.out]
      go_wp2_with fail
      refine (cut_any_some (S l) 93 _ hz a b hcH.out).mono ?_
      rintro e w1 ⟨rfl, hb⟩
      go_wp2
      go_ret2
      rw [hT.out.1, hT.out.2]
      exact ⟨by rw [← S_append a [93]]; rfl, hb⟩

set_option maxHeartbeats 1000000 in
theorem scheme_any (l : List UInt8) (w : World) (hl : l.length ≤ 4294967280) :
    Calls Try.prog 44 #[.string (S l)] w fun e w' => e = .returned (.tuple #[.bool (schT l).1, .bool (schT l).2]) ∧ Below w.heap.size w w' := by
  have hz : (S l).size ≤ 4294967296 := by rw [S_size]; omega
  have hT0 := Lib.hid (show schT l = if lowerL l = [104, 116, 116, 112, 115] then (true, true) else if lowerL l = [104, 116, 116, 112] then (false, true) else (false, false) from rfl)
  by_cases h1 : lowerL l = [104, 116, 116, 112, 115]
  · have hT := Lib.hid (hT0.out.trans (if_pos h1))
    have hq : (lowerL l == [104, 116, 116, 112, 115]) = true := by rw [beq_iff_eq]; exact h1
    clear hT0 h1
    go_enter Try.func44, Try.ntmps44
    go_wp2_with fail
    refine (lowerA_any (S l) _ hz).mono ?_
    rintro e w1 ⟨rfl, hb⟩
    rw [S_toList]
    generalize lowerL l = ll at *
    go_wp2
    go_ret2
    rw [hT.out]
    exact ⟨rfl, hb⟩
  · have hT1 := Lib.hid (hT0.out.trans (if_neg h1))
    have hq : (lowerL l == [104, 116, 116, 112, 115]) = false := by rw [beq_eq_false_iff_ne]; exact h1
    by_cases h2 : lowerL l = [104, 116, 116, 112]
    · have hT := Lib.hid (hT1.out.trans (if_pos h2))
      have hq2 : (lowerL l == [104, 116, 116, 112]) = true := by rw [beq_iff_eq]; exact h2
      clear hT0 hT1 h1 h2
      go_enter Try.func44, Try.ntmps44
      go_wp2_with fail
      refine (lowerA_any (S l) _ hz).mono ?_
      rintro e w1 ⟨rfl, hb⟩
      rw [S_toList]
      generalize lowerL l = ll at *
      go_wp2
      go_ret2
      rw [hT.out]
      exact ⟨rfl, hb⟩
    · have hT := Lib.hid (hT1.out.trans (if_neg h2))
      have hq2 : (lowerL l == [104, 116, 116, 112]) = false := by rw [beq_eq_false_iff_ne]; exact h2
      clear hT0 hT1 h1 h2
      go_enter Try.func44, Try.ntmps44
      go_wp2_with fail
      refine (lowerA_any (S l) _ hz).mono ?_
      rintro e w1 ⟨rfl, hb⟩
      rw [S_toList]
      generalize lowerL l = ll at *
      go_wp2
      go_ret2
      rw [hT.out]
      exact ⟨rfl, hb⟩

theorem port_eq {l : List UInt8} (h1 : 2 ≤ l.length) : (numOk (l.drop 1) && decide (numV (l.drop 1) ≤ 65535) && !(l.getD 1 0 == 45)) = (decide (digN (l.drop 1) = l.length - 1) && decide (numV (l.drop 1) ≤ 65535)) := by
  match l, h1 with
  | a :: b :: r, _ =>
    show (numOk (b :: r) && decide (numV (b :: r) ≤ 65535) && !(b == 45)) = (decide (digN (b :: r) = r.length + 1) && decide (numV (b :: r) ≤ 65535))
    by_cases hb : b = 45
    · subst hb
      have e : digN (45 :: r) = 0 := rfl
      rw [e, decide_eq_false (show ¬ (0 = r.length + 1) by omega)]
      simp
    · have hq : (b == 45) = false := by rw [beq_eq_false_iff_ne]; exact hb
      have e : numT (b :: r) = b :: r := by
        unfold numT numNeg
        have : (b :: r).getD 0 0 = b := rfl
        rw [this, hq]
        simp
      have e2 : numOk (b :: r) = decide (digN (b :: r) = r.length + 1) := by
        unfold numOk
        rw [e]
        simp
      rw [e2, hq]
      simp

set_option maxHeartbeats 2000000 in
theorem ported_any (l : List UInt8) (w : World) (hl : l.length ≤ 4294967280) :
    Calls Try.prog 48 #[.string (S l)] w fun e w' => e = .returned (.bool (portB l)) ∧ Below w.heap.size w w' := by
  have hT0 := Lib.hid (show portB l = (l == [] || (l.getD 0 0 == 58 && decide (l.length ≤ 6) && (l == [58] || (decide (digN (l.drop 1) = l.length - 1) && decide (numV (l.drop 1) ≤ 65535))))) from rfl)
  by_cases h0 : l = []
  · subst h0
    go_enter Try.func48, Try.ntmps48
    go_wp2
    go_ret
    exact ⟨rfl, Below.refl _ _⟩
  have hq0 : (l == []) = false := by rw [beq_eq_false_iff_ne]; exact h0
  have hpos : 0 < l.length := List.length_pos_iff.2 h0
  have hpi : (0 : Int) < l.length := by omega
  rw [hq0, Bool.false_or] at hT0
  have hg : ∀ h, (S l)[0]'h = l.getD 0 0 := fun h => by rw [get_l _ _ h, S_toList]
  by_cases h1 : l.getD 0 0 = 58
  · have hq1 : (l.getD 0 0 == 58) = true := by rw [beq_iff_eq]; exact h1
    by_cases h6 : 6 < l.length
    · have hT := Lib.hid (show portB l = false by rw [hT0.out, decide_eq_false (show ¬ l.length ≤ 6 by omega)]; simp)
      have h6i : (6 : Int) < l.length := by omega
      rw [h1] at hg
      clear hT0 h0 h1 hq1
      go_enter Try.func48, Try.ntmps48
      go_wp2
      go_ret
      rw [hT.out]
      exact ⟨rfl, Below.refl _ _⟩
    · have h6i : (l.length : Int) ≤ 6 := by omega
      rw [hq1, decide_eq_true (show l.length ≤ 6 by omega), Bool.true_and, Bool.true_and] at hT0
      rw [h1] at hg
      have hx1 : (S l).extract 1 l.length = S (l.drop 1) := by rw [show l.length = (S l).size from (S_size l).symm, extract_from, S_toList]
      have hpi1 : (1 : Int) ≤ l.length := by omega
      have hz : (S (l.drop 1)).size ≤ maxLen := by rw [S_size]; unfold maxLen; simp; omega
      by_cases h2 : l = [58]
      · subst h2
        have hno := Lib.hid (show numOk (([58] : List UInt8).drop 1) = false from rfl)
        have hT := Lib.hid (show portB [58] = true from rfl)
        clear hT0
        go_enter Try.func48, Try.ntmps48
        go_wp2_with fail
        refine (number_any _ _ (by decide)).mono ?_
        rintro e w1 ⟨rfl, rfl⟩
        rw [show ByteArray.empty.toList = [] from S_toList [], show numOk [] = false from rfl, show numV [] = 0 from rfl]
        go_wp2
        go_ret
        rw [hT.out]
        exact ⟨rfl, Below.refl _ _⟩
      · have hq2 : (l == [58]) = false := by rw [beq_eq_false_iff_ne]; exact h2
        have hl2 : 2 ≤ l.length := by
          match l, hpos, h1, h2 with
          | [a], _, h1, h2 => exact absurd (by rw [show a = 58 from h1]) h2
          | a :: b :: r, _, _, _ => simp
        have hT := Lib.hid (show portB l = (numOk (l.drop 1) && decide (numV (l.drop 1) ≤ 65535) && !(l.getD 1 0 == 45)) by rw [hT0.out, hq2, Bool.false_or, port_eq hl2])
        have hl2i : (1 : Int) < l.length := by omega
        have hg1 : ∀ h, (S l)[1]'h = l.getD 1 0 := fun h => by rw [get_l _ _ h, S_toList]
        clear hT0 h0 h1 h2 hq1
        generalize l.drop 1 = d at *
        generalize l.getD 1 0 = c1 at *
        have hne := Lib.hid (nec (a := c1) (i := 45) 45 rfl)
        obtain ⟨ok, hok⟩ : ∃ ok, numOk d = ok := ⟨_, rfl⟩
        obtain ⟨v, hv⟩ : ∃ v, numV d = v := ⟨_, rfl⟩
        have hokH := Lib.hid hok
        have hvH := Lib.hid hv
        rw [hok, hv] at hT
        clear hok hv
        cases ok
        · go_enter Try.func48, Try.ntmps48
          go_wp2_with fail
          refine (number_any (S d) _ hz).mono ?_
          rintro e w1 ⟨rfl, rfl⟩
          rw [S_toList, hokH.out, hvH.out]
          go_wp2
          go_ret
          rw [hT.out]
          exact ⟨rfl, Below.refl _ _⟩
        · by_cases hvv : v ≤ 65535
          · have hT2 := Lib.hid (show portB l = !(c1 == 45) by rw [hT.out, decide_eq_true hvv]; simp)
            clear hT
            cases hc1 : (c1 == 45)
            all_goals
              rw [hc1] at hT2 hne
              replace hne := hne.out
              clear hc1
              go_enter Try.func48, Try.ntmps48
              go_wp2_with fail
              refine (number_any (S d) _ hz).mono ?_
              rintro e w1 ⟨rfl, rfl⟩
              rw [S_toList, hokH.out, hvH.out]
              go_wp2
              go_ret
              rw [hT2.out]
              exact ⟨rfl, Below.refl _ _⟩
          · have hT2 := Lib.hid (show portB l = false by rw [hT.out, decide_eq_false hvv]; simp)
            have hvi : (65535 : Int) < v := by omega
            clear hT hvv
            go_enter Try.func48, Try.ntmps48
            go_wp2_with fail
            refine (number_any (S d) _ hz).mono ?_
            rintro e w1 ⟨rfl, rfl⟩
            rw [S_toList, hokH.out, hvH.out]
            go_wp2
            go_ret
            rw [hT2.out]
            exact ⟨rfl, Below.refl _ _⟩
  · have hq1 : (l.getD 0 0 == 58) = false := by rw [beq_eq_false_iff_ne]; exact h1
    have hT := Lib.hid (show portB l = false by rw [hT0.out, hq1]; rfl)
    have hne : (((l.getD 0 0).toNat : Int) != 58) = true := by rw [nec (i := 58) 58 rfl, hq1]; rfl
    clear hT0 h0 h1 hq1
    generalize l.getD 0 0 = c0 at *
    go_enter Try.func48, Try.ntmps48
    go_wp2
    go_ret
    rw [hT.out]
    exact ⟨rfl, Below.refl _ _⟩

theorem ubegin_any (s : Bool) (w : World) :
    Calls Try.prog 57 #[.bool s] w fun e w' => e = .returned (.string (S (if s then [104, 116, 116, 112, 115, 58, 47, 47] else [104, 116, 116, 112, 58, 47, 47]))) ∧ w = w' := by
  cases s
  all_goals
    go_enter Try.func57, Try.ntmps57
    go_wp2
    go_ret
    exact ⟨rfl, rfl⟩
end Go.Proofs.Ytbijphfendaddaa
