/-
  The reference's public suffixes walked: rules, and all of them; a point in a text.
-/
import Derived.Test.YtbijphfendaddaaSufR2
namespace Go.Proofs.Ytbijphfendaddaa
open Go.RowKit
set_option linter.unusedVariables false

theorem splitR_len (l : List UInt8) : (splitR l).2.length ≤ l.length := by
  unfold splitR
  split
  · simp
  · split
    · simp
    · exact Nat.le_refl _
theorem splitR_sign (l : List UInt8) : (splitR l).1 = 42 ∨ (splitR l).1 = 33 ∨ (splitR l).1 = 0 := by
  unfold splitR
  split
  · exact .inl rfl
  · split
    · exact .inr (.inl rfl)
    · exact .inr (.inr rfl)

set_option maxRecDepth 4000 in
set_option maxHeartbeats 2000000 in
theorem refRule09_any (l : List UInt8) (w : World) (hl : l.length ≤ 4294967296) :
    Calls Try.prog 33 #[.string (S l)] w fun e w' => e = .returned (.bool (ruleOk l)) ∧ Below w.heap.size w w' := by
  have hT := Lib.hid ((rule_eq l).symm.trans (show refRuleB l = (nameB (splitR l).2 && (decide ((splitR l).1 ≠ 33) || decide (0 ≤ findL (splitR l).2 46))) from rfl))
  have hlen := splitR_len l
  have hsg := splitR_sign l
  obtain ⟨sg, nm, hS⟩ : ∃ sg nm, splitR l = (sg, nm) := ⟨_, _, rfl⟩
  rw [hS] at hT hlen hsg
  have hSH := Lib.hid hS
  clear hS
  simp only at hT hlen hsg
  have hnz : (S nm).size ≤ 4294967296 := by rw [S_size]; omega
  have hnm : (S nm).size ≤ maxLen := by unfold maxLen; omega
  cases hnb : nameB nm
  · have hnH := Lib.hid hnb
    rw [hnb] at hT
    clear hnb hsg
    go_enter Try.func33, Try.ntmps33
    go_wp2_with fail
    refine (refSplit09_any l _ hl).mono ?_
    rintro e w1 ⟨rfl, hb1⟩
    rw [hSH.out]
    go_wp2_with fail
    refine (refName_any (S nm) _ hnz).mono ?_
    rintro e w2 ⟨rfl, hb2⟩
    have hbz := bel_call hb1 hb2
    rw [S_toList, hnH.out]
    go_wp2
    go_ret
    rw [hT.out]
    exact ⟨rfl, hbz⟩
  · have hnH := Lib.hid hnb
    rw [hnb] at hT
    clear hnb
    rcases hsg with rfl | rfl | rfl
    · go_enter Try.func33, Try.ntmps33
      go_wp2_with fail
      refine (refSplit09_any l _ hl).mono ?_
      rintro e w1 ⟨rfl, hb1⟩
      rw [hSH.out]
      go_wp2_with fail
      refine (refName_any (S nm) _ hnz).mono ?_
      rintro e w2 ⟨rfl, hb2⟩
      have hbz := bel_call hb1 hb2
      rw [S_toList, hnH.out]
      go_wp2
      go_ret
      rw [hT.out]
      exact ⟨rfl, hbz⟩
    · have hT2 := Lib.hid (hT.out.trans (show (true && (decide ((33 : Int) ≠ 33) || decide (0 ≤ findL nm 46))) = decide (0 ≤ findL nm 46) by simp))
      clear hT
      go_enter Try.func33, Try.ntmps33
      go_wp2_with fail
      refine (refSplit09_any l _ hl).mono ?_
      rintro e w1 ⟨rfl, hb1⟩
      rw [hSH.out]
      go_wp2_with fail
      refine (refName_any (S nm) _ hnz).mono ?_
      rintro e w2 ⟨rfl, hb2⟩
      have hbz := bel_call hb1 hb2
      rw [S_toList, hnH.out]
      go_wp2_with fail
      refine (refFind_any (S nm) 46 _ hnm).mono ?_
      rintro e w3 ⟨rfl, rfl⟩
      rw [S_toList]
      generalize findL nm 46 = fi at *
      go_wp2
      go_ret
      rw [hT2.out]
      exact ⟨rfl, hbz⟩
    · go_enter Try.func33, Try.ntmps33
      go_wp2_with fail
      refine (refSplit09_any l _ hl).mono ?_
      rintro e w1 ⟨rfl, hb1⟩
      rw [hSH.out]
      go_wp2_with fail
      refine (refName_any (S nm) _ hnz).mono ?_
      rintro e w2 ⟨rfl, hb2⟩
      have hbz := bel_call hb1 hb2
      rw [S_toList, hnH.out]
      go_wp2
      go_ret
      rw [hT.out]
      exact ⟨rfl, hbz⟩

theorem all_take_no {rs : List (List UInt8)} {k : Nat} (h : k < rs.length) (hn : ruleOk rs[k] = false) : rs.all ruleOk = false := by
  rw [List.all_eq_false]
  exact ⟨_, List.getElem_mem h, by rw [hn]; decide⟩

set_option maxHeartbeats 2000000 in
theorem refRight09_any (A : Option Addr) (c : Nat) (rs : List (List UInt8)) (w : World) (h : Rd w 1 (.slice A rs.length c) rs.length (rs.map strV)) (hrs : ∀ r ∈ rs, r.length ≤ 4294967296) :
    Calls Try.prog 14 #[.slice A rs.length c] w fun e w' => e = .returned (.bool (rs.all ruleOk)) ∧ Below w.heap.size w w' := by
  have hcap := h.cap
  unfold maxLen at hcap
  obtain ⟨hca, hcb⟩ := hcap
  go_enter Try.func14, Try.ntmps14
  go_wp2
  go_loopw [3] (fun i wr => ∃ k : Nat, i = .int .i64 k ∧ k ≤ rs.length ∧ Below w.heap.size w wr ∧ Hid ((rs.take k).all ruleOk = true)) (fun i _ => rs.length - (intOf i).toNat)
  case atStart => exact ⟨0, rfl, by omega, Below.refl _ _, Lib.hid rfl⟩
  case round =>
    obtain ⟨k, rfl, hk, hbel, hin⟩ := hrel
    by_cases hlt : k < rs.length
    · have hki : (k : Int) < rs.length := by omega
      obtain ⟨b, off, rfl, hb, hx⟩ := (h.below hbel).texts.2 k hlt
      have hrl := hrs _ (List.getElem_mem hlt)
      cases hok : ruleOk rs[k]
      · have hno := Lib.hid (all_take_no hlt hok)
        have hokH := Lib.hid hok
        clear hok hin
        generalize rs[k] = tk at *
        go_wp2_with fail
        refine (refRule09_any tk _ hrl).mono ?_
        rintro e w3 ⟨rfl, hb3⟩
        rw [hokH.out]
        have hbel3 := bel_call hbel hb3
        go_wp2
        go_ret
        rw [hno.out]
        exact ⟨rfl, hbel3⟩
      · have hin2 := Lib.hid (show (rs.take (k + 1)).all ruleOk = true by rw [all_take_stepL hlt, hin.out, hok]; rfl)
        have hokH := Lib.hid hok
        clear hok hin
        generalize rs[k] = tk at *
        go_wp2_with fail
        refine (refRule09_any tk _ hrl).mono ?_
        rintro e w3 ⟨rfl, hb3⟩
        rw [hokH.out]
        have hbel3 := bel_call hbel hb3
        go_wp2
        go_roundw
        case rel => exact ⟨k + 1, by go_num, by omega, hbel3, hin2⟩
        case measure => simp [intOf]; omega
    · obtain rfl : k = rs.length := by omega
      have hfin := Lib.hid (show rs.all ruleOk = true by have := hin.out; rwa [List.take_length] at this)
      clear hin
      go_wp2
      go_ret
      rw [hfin.out]
      exact ⟨rfl, hbel⟩

set_option maxHeartbeats 2000000 in
theorem holds_any (l : List UInt8) (w : World) (hl : l.length ≤ 4294967296) (h : (46 : UInt8) ∉ l) :
    Calls Try.prog 19 #[.string (S l)] w fun e w' => e = .returned (.bool false) ∧ w = w' := by
  go_enter Try.func19, Try.ntmps19
  go_wp2
  go_loop [3] (fun i => ∃ k : Nat, i = .int .i64 k ∧ k ≤ l.length) (fun i => l.length - (intOf i).toNat)
  case atStart => exact ⟨0, rfl, by omega⟩
  case round =>
    obtain ⟨k, rfl, hk⟩ := hrel
    by_cases hlt : k < l.length
    · have hki : (k : Int) < l.length := by omega
      have hg : ∀ h, (S l)[k]'h = l.getD k 0 := fun h => by rw [get_l _ _ h, S_toList]
      have hne : (((l.getD k 0).toNat : Int) == 46) = false := by
        rw [eqc (i := 46) 46 rfl]
        apply beq_eq_false_iff_ne.2
        intro e
        apply h
        rw [List.getD_eq_getElem?_getD, List.getElem?_eq_getElem hlt] at e
        simp only [Option.getD_some] at e
        rw [← e]
        exact List.getElem_mem hlt
      generalize l.getD k 0 = c0 at *
      clear h
      go_wp2
      go_round
      case rel => exact ⟨k + 1, by go_num, by omega⟩
      case measure => simp [intOf]; omega
    · obtain rfl : k = l.length := by omega
      go_wp2
      go_ret
      exact ⟨rfl, rfl⟩
end Go.Proofs.Ytbijphfendaddaa
