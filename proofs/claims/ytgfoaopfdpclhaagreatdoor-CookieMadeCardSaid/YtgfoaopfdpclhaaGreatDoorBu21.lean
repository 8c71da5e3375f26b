/-
  Joined texts: SufR1.
-/
import Derived.Test.YtgfoaopfdpclhaaGreatDoorBu20
namespace Go.Proofs.YtgfoaopfdpclhaaGreatDoor
open Go.RowKit
set_option linter.unusedVariables false
set_option maxRecDepth 100000

/-- A rule's sign and its name, by the reference. -/
def splitR (l : List UInt8) : Int × List UInt8 :=
  if 2 < l.length ∧ l.take 2 = [42, 46] then (42, l.drop 2) else if 1 < l.length ∧ l.getD 0 0 = 33 then (33, l.drop 1) else (0, l)
theorem prefix_two {l : List UInt8} : Lib.hasPrefix l [42, 46] = true ↔ 2 ≤ l.length ∧ l.take 2 = [42, 46] := by
  match l with
  | [] => simp [Lib.hasPrefix]
  | [a] => simp [Lib.hasPrefix]
  | a :: b :: r =>
    simp [Lib.hasPrefix]
    constructor <;> (rintro ⟨rfl, rfl⟩; exact ⟨rfl, rfl⟩)
theorem prefix_one {l : List UInt8} : Lib.hasPrefix l [33] = true ↔ 1 ≤ l.length ∧ l.getD 0 0 = 33 := by
  match l with
  | [] => simp [Lib.hasPrefix]
  | a :: r =>
    simp [Lib.hasPrefix]
    exact eq_comm
theorem name_nil : nameB [] = false := by decide +kernel
theorem name_star : nameB [42, 46] = false := by decide +kernel
theorem name_bang : nameB [33] = false := by decide +kernel
def signI (r : Ru) : Int := if r.an then 42 else if r.nt then 33 else 0
/-- Of a rule the reference knows the same sign and name. -/
theorem split_rule {l : List UInt8} (h : ruleOk l = true) : splitR l = (signI (ruleT l), (ruleT l).nm) := by
  have hn : nameB (ruleT l).nm = true := by unfold ruleOk at h; rw [Bool.and_eq_true] at h; exact h.1
  unfold splitR
  unfold ruleT at hn ⊢
  by_cases h1 : Lib.hasPrefix l [42, 46] = true
  · rw [if_pos h1] at hn ⊢
    obtain ⟨p1, p2⟩ := prefix_two.1 h1
    have hl : 2 < l.length := by
      by_cases hl : 2 < l.length
      · exact hl
      · have : l.drop 2 = [] := List.drop_of_length_le (by omega)
        rw [this] at hn
        exact absurd hn (by rw [name_nil]; decide)
    rw [if_pos ⟨hl, p2⟩]; rfl
  · rw [if_neg h1] at hn ⊢
    rw [if_neg (by rintro ⟨a, b⟩; exact h1 (prefix_two.2 ⟨by omega, b⟩))]
    by_cases h2 : Lib.hasPrefix l [33] = true
    · rw [if_pos h2] at hn ⊢
      obtain ⟨p1, p2⟩ := prefix_one.1 h2
      have hl : 1 < l.length := by
        by_cases hl : 1 < l.length
        · exact hl
        · have : l.drop 1 = [] := List.drop_of_length_le (by omega)
          rw [this] at hn
          exact absurd hn (by rw [name_nil]; decide)
      rw [if_pos ⟨hl, p2⟩]; rfl
    · rw [if_neg h2, if_neg (by rintro ⟨a, b⟩; exact h2 (prefix_one.2 ⟨by omega, b⟩))]; rfl
/-- Is a text a rule, by the reference? -/
def refRuleB (l : List UInt8) : Bool := nameB (splitR l).2 && (decide ((splitR l).1 ≠ 33) || decide (0 ≤ findL (splitR l).2 46))
theorem find_two (l : List UInt8) : decide (0 ≤ findL l 46) = decide (1 < (splitL l 46).length) := by
  rcases hc : cutL l 46 with _ | p
  · have e1 : findL l 46 = -1 := by unfold findL; rw [hc]
    have e2 : splitL l 46 = [l] := by rw [split_cut, hc]
    rw [e1, e2]; rfl
  · have e1 : findL l 46 = p.1.length := by unfold findL; rw [hc]
    have e2 : splitL l 46 = p.1 :: splitL p.2 46 := by rw [split_cut, hc]
    rw [e1, e2, decide_eq_true (by omega), decide_eq_true (by have := split_pos p.2; simp; omega)]
theorem rule_eq (l : List UInt8) : refRuleB l = ruleOk l := by
  unfold refRuleB ruleOk splitR ruleT
  by_cases h1 : Lib.hasPrefix l [42, 46] = true
  · obtain ⟨p1, p2⟩ := prefix_two.1 h1
    by_cases hl : 2 < l.length
    · rw [if_pos ⟨hl, p2⟩, if_pos h1]; simp
    · have hl2 : l = [42, 46] := by rw [← p2, List.take_of_length_le (by omega)]
      subst hl2
      decide +kernel
  · rw [if_neg (by rintro ⟨a, b⟩; exact h1 (prefix_two.2 ⟨by omega, b⟩)), if_neg h1]
    by_cases h2 : Lib.hasPrefix l [33] = true
    · obtain ⟨p1, p2⟩ := prefix_one.1 h2
      by_cases hl : 1 < l.length
      · rw [if_pos ⟨hl, p2⟩, if_pos h2]; simp [find_two]
      · have hl2 : l = [33] := by
          match l, p1, hl, p2 with
          | [a], _, _, p2 => simpa using p2
          | a :: b :: r, _, hl, _ => simp at hl
        subst hl2
        decide +kernel
    · rw [if_neg (by rintro ⟨a, b⟩; exact h2 (prefix_one.2 ⟨by omega, b⟩)), if_neg h2]; simp

set_option maxRecDepth 4000 in
set_option maxHeartbeats 2000000 in
theorem refSplit09_any (l : List UInt8) (w : World) (hl : l.length ≤ 4294967296) :
    Calls Tryz.prog 79 #[.string (S l)] w fun e w' => e = .returned (.tuple #[.int .u8 (splitR l).1, .string (S (splitR l).2)]) ∧ Below w.heap.size w w' := by
  have hT0 := Lib.hid (show splitR l = if 2 < l.length ∧ l.take 2 = [42, 46] then (42, l.drop 2) else if 1 < l.length ∧ l.getD 0 0 = 33 then (33, l.drop 1) else (0, l) from rfl)
  by_cases h1 : 2 < l.length ∧ l.take 2 = [42, 46]
  · have hT := Lib.hid (hT0.out.trans (if_pos h1))
    have hi : (2 : Int) < l.length := by omega
    have hi2 : (2 : Int) ≤ l.length := by omega
    have hx : (S l).extract 0 2 = S (l.take 2) := by rw [extract_to, S_toList]
    have hq : (l.take 2 == [42, 46]) = true := by rw [beq_iff_eq]; exact h1.2
    have hx2 : (S l).extract 2 l.length = S (l.drop 2) := by rw [show l.length = (S l).size from (S_size l).symm, extract_from, S_toList]
    clear hT0 h1
    go_enter Tryz.func79, Tryz.ntmps79
    go_wp2
    go_quiet (fail)
    go_wp2
    go_ret2
    rw [hT.out]
    exact ⟨rfl, below_drews (Below.refl _ _) _⟩
  · have hT1 := Lib.hid (hT0.out.trans (if_neg h1))
    by_cases h2 : 1 < l.length ∧ l.getD 0 0 = 33
    · have hT := Lib.hid (hT1.out.trans (if_pos h2))
      obtain ⟨h2a, h2b⟩ := h2
      have hx2 : (S l).extract 1 l.length = S (l.drop 1) := by rw [show l.length = (S l).size from (S_size l).symm, extract_from, S_toList]
      generalize l.drop 1 = d1 at *
      have hj : (1 : Int) < l.length := by omega
      have hj2 : (1 : Int) ≤ l.length := by omega
      have hg : ∀ h, (S l)[0]'h = 33 := fun h => by rw [get_l _ _ h, S_toList]; exact h2b
      by_cases hl : 2 < l.length
      · have hi : (2 : Int) < l.length := by omega
        have hi2 : (2 : Int) ≤ l.length := by omega
        have hx : (S l).extract 0 2 = S (l.take 2) := by rw [extract_to, S_toList]
        have hq : (l.take 2 == [42, 46]) = false := by rw [beq_eq_false_iff_ne]; exact fun e => h1 ⟨hl, e⟩
        clear hT0 hT1 h1 h2a h2b hl
        go_enter Tryz.func79, Tryz.ntmps79
        go_wp2
        go_quiet (fail)
        go_wp2
        go_ret2
        rw [hT.out]
        exact ⟨rfl, below_drews (Below.refl _ _) _⟩
      · have hi : (l.length : Int) ≤ 2 := by omega
        clear hT0 hT1 h1 h2a h2b hl
        go_enter Tryz.func79, Tryz.ntmps79
        go_wp2
        go_quiet (fail)
        go_wp2
        go_ret2
        rw [hT.out]
        exact ⟨rfl, below_drews (Below.refl _ _) _⟩
    · have hT := Lib.hid (hT1.out.trans (if_neg h2))
      by_cases hk : 1 < l.length
      · have hj : (1 : Int) < l.length := by omega
        have hc : l.getD 0 0 ≠ 33 := fun e => h2 ⟨hk, e⟩
        have hg : ∀ h, (S l)[0]'h = l.getD 0 0 := fun h => by rw [get_l _ _ h, S_toList]
        have hne : (((l.getD 0 0).toNat : Int) == 33) = false := by rw [eqc (i := 33) 33 rfl]; exact beq_eq_false_iff_ne.2 hc
        generalize l.getD 0 0 = c0 at *
        by_cases hl : 2 < l.length
        · have hi : (2 : Int) < l.length := by omega
          have hi2 : (2 : Int) ≤ l.length := by omega
          have hx : (S l).extract 0 2 = S (l.take 2) := by rw [extract_to, S_toList]
          have hq : (l.take 2 == [42, 46]) = false := by rw [beq_eq_false_iff_ne]; exact fun e => h1 ⟨hl, e⟩
          clear hT0 hT1 h1 h2 hk hc hl
          go_enter Tryz.func79, Tryz.ntmps79
          go_wp2
          go_ret2
          rw [hT.out]
          exact ⟨rfl, Below.refl _ _⟩
        · have hi : (l.length : Int) ≤ 2 := by omega
          clear hT0 hT1 h1 h2 hk hc hl
          go_enter Tryz.func79, Tryz.ntmps79
          go_wp2
          go_ret2
          rw [hT.out]
          exact ⟨rfl, Below.refl _ _⟩
      · have hj : (l.length : Int) ≤ 1 := by omega
        have hi : (l.length : Int) ≤ 2 := by omega
        clear hT0 hT1 h1 h2 hk
        go_enter Tryz.func79, Tryz.ntmps79
        go_wp2
        go_ret2
        rw [hT.out]
        exact ⟨rfl, Below.refl _ _⟩

set_option maxHeartbeats 2000000 in
theorem refCount_any (l : List UInt8) (w : World) (hl : l.length ≤ 4294967296) :
    Calls Tryz.prog 78 #[.string (S l)] w fun e w' => e = .returned (.int .i64 (Lab l).length) ∧ Below w.heap.size w w' := by
  have hz : (S l).size ≤ 4294967296 := by rw [S_size]; exact hl
  go_enter Tryz.func78, Tryz.ntmps78
  go_wp2_with fail
  refine (refSplit_any (S l) 46 _ hz).mono ?_
  rintro e w1 ⟨A, c, rfl, hown, hb⟩
  rw [S_toList]
  have hL : (splitL l 46).length = (Lab l).length := rfl
  rw [hL]
  go_wp2
  go_ret
  exact ⟨rfl, hb⟩
theorem tail_one {n : List UInt8} : Lab (tailL n 1) = (Lab n).drop ((Lab n).length - 1) := (tail_lab (n := n) (b := 1) (by omega) (by have := lab_pos n; omega)).1
theorem lab_nodot {l x : List UInt8} (h : x ∈ Lab l) : Lab x = [x] := by
  generalize hn : l.length = n
  induction n using Nat.strongRecOn generalizing l with
  | _ n ih =>
    rcases hc : cutL l 46 with _ | p
    · rw [lab_cut_none hc] at h
      simp at h
      subst h
      exact lab_cut_none hc
    · rw [lab_cut_some hc] at h
      obtain ⟨_, _, _, e, h5⟩ := cut_some hc
      rcases List.mem_cons.1 h with rfl | h
      · exact lab_cut_none (cut_none_iff.2 h5)
      · exact ih p.2.length (by rw [← hn, e]; simp; omega) h rfl
theorem tail_more {n : List UInt8} {b : Nat} (h1 : 1 ≤ b) (h2 : b < (Lab n).length) : tailL n ((b : Int) + 1) = (Lab n)[(Lab n).length - 1 - b] ++ 46 :: tailL n b := by
  apply lab_inj
  rw [lab_app, lab_nodot (List.getElem_mem _), (tail_lab (n := n) (b := (b : Int) + 1) (by omega) (by omega)).1, (tail_lab (n := n) (b := b) (by omega) (by omega)).1]
  rw [show (Lab n).length - ((b : Int) + 1).toNat = (Lab n).length - 1 - b by omega, List.drop_eq_getElem_cons (by omega), show (Lab n).length - 1 - b + 1 = (Lab n).length - (b : Int).toNat by omega]
  rfl
theorem tail_last {n : List UInt8} : tailL n 1 = (Lab n)[(Lab n).length - 1]'(by have := lab_pos n; omega) := by
  have hp := lab_pos n
  apply lab_inj
  rw [tail_one, lab_nodot (List.getElem_mem _), List.drop_eq_getElem_cons (by omega), show (Lab n).length - 1 + 1 = (Lab n).length by omega, List.drop_length]
end Go.Proofs.YtgfoaopfdpclhaaGreatDoor
