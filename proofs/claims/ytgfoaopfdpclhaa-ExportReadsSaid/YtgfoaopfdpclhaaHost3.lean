/-
  The walks of package host, third part: four numbers, names, domains.
-/
import Derived.Test.YtgfoaopfdpclhaaHost2
import Derived.Test.YtgfoaopfdpclhaaPath
namespace Go.Proofs.Ytgfoaopfdpclhaa
open Go.RowKit
set_option linter.unusedVariables false

theorem rd_str {w : World} {A : Option Addr} {n c : Nat} {l : List (List UInt8)} (h : Rd w 1 (.slice A n c) n (l.map strV)) {k : Nat} (hk : k < n) :
    ∃ b off, A = some ⟨b, off, none⟩ ∧ b < w.heap.size ∧ ∃ hk' : k < l.length, w.cell? ⟨b, off + k, none⟩ = some (.string (S l[k])) := by
  have hl := h.1
  simp only [List.length_map, Nat.mul_one] at hl
  obtain ⟨b, off, hA, hb, hc⟩ := h.at_ (by omega)
  refine ⟨b, off, hA, hb, by omega, ?_⟩
  rw [hc k (by simp; omega), List.getElem?_map, List.getElem?_eq_getElem (by omega : k < l.length)]
  rfl

theorem part_cases (p : List UInt8) : (partB p = true ∧ p.isEmpty = false ∧ decide (digN p < p.length) = false ∧ decide ((255 : Int) < numV p) = false ∧ ((decide ((1 : Int) < p.length) = false) ∨ (decide ((1 : Int) < p.length) = true ∧ (p.getD 0 0 == 48) = false))) ∨
    (partB p = false ∧ ((p.isEmpty = true) ∨ (p.isEmpty = false ∧ decide (digN p < p.length) = true) ∨ (p.isEmpty = false ∧ decide (digN p < p.length) = false ∧ decide ((255 : Int) < numV p) = true) ∨ (p.isEmpty = false ∧ decide (digN p < p.length) = false ∧ decide ((255 : Int) < numV p) = false ∧ decide ((1 : Int) < p.length) = true ∧ (p.getD 0 0 == 48) = true))) := by
  have e : decide ((1 : Int) < p.length) = decide (1 < p.length) := by rw [Bool.eq_iff_iff]; simp; omega
  unfold partB
  rw [e]
  cases p.isEmpty <;> cases decide (digN p < p.length) <;> cases decide ((255 : Int) < numV p) <;> cases decide (1 < p.length) <;> cases (p.getD 0 0 == 48) <;> simp

set_option maxHeartbeats 4000000 in
theorem four_any (s : ByteArray) (w : World) (hs : s.size ≤ 4294967296) :
    Calls Try.prog 84 #[.string s] w fun e w' => e = .returned (.bool (fourB s.toList)) ∧ Below w.heap.size w w' := by
  have hpl := Lib.hid (split_part s.toList 46)
  have hsz := Lib.hid (size_toList s)
  have hlen := split_len s.toList 46
  rw [← size_toList] at hlen
  have hF := Lib.hid (show fourB s.toList = (decide ((splitL s.toList 46).length = 4) && (splitL s.toList 46).all partB) from rfl)
  go_enter Try.func84, Try.ntmps84
  go_wp2_with fail
  refine (split_any s 46 _ hs).mono ?_
  rintro e w1 ⟨A, c, rfl, hown, hb1⟩
  have hR := Rd.of_own hown
  have hcap := hR.cap
  unfold maxLen at hcap
  obtain ⟨hca, hcb⟩ := hcap
  clear hown
  generalize splitL s.toList 46 = l at *
  by_cases h4 : l.length = 4
  · have h4i : ((l.length : Int) != 4) = false := by rw [bne_eq_false_iff_eq]; omega
    have hF2 := Lib.hid (show fourB s.toList = l.all partB by rw [hF.out, decide_eq_true h4]; rfl)
    clear h4
    go_wp2_with fail
    go_loopw [15] (fun i wr => ∃ k : Nat, k ≤ l.length ∧ i = .int .i64 k ∧ Below w1.heap.size w1 wr ∧ Hid ((l.take k).all partB = true)) (fun i _ => l.length - (intOf i).toNat)
    case atStart => exact ⟨0, Nat.zero_le _, rfl, Below.refl _ _, rfl⟩
    case round =>
      obtain ⟨k, hk, rfl, hbel, hall⟩ := hrel
      have hbw := bel_call hb1 hbel
      by_cases hlt : k < l.length
      · have hlti : (k : Int) < l.length := by omega
        obtain ⟨b, off, rfl, hb, _, hcell⟩ := rd_str (hR.below hbel) hlt
        have hst := Lib.hid (all_take_stepL (p := partB) hlt)
        have hbad := Lib.hid (all_badL (p := partB) hlt)
        have hpm : (S l[k]).size ≤ maxLen := by
          have := hpl.out _ (List.getElem_mem hlt)
          rw [← hsz.out] at this
          rw [S_size]; unfold maxLen; omega
        have hpm' : l[k].length ≤ 4294967296 := by
          have := hpl.out _ (List.getElem_mem hlt)
          rw [← hsz.out] at this
          omega
        obtain ⟨p, hp⟩ : ∃ p, l[k] = p := ⟨_, rfl⟩
        rw [hp] at hcell hpm hpm'
        have hP := Lib.hid hp
        clear hp
        rcases part_cases p with ⟨hy, h1, h2, h3, h4⟩ | ⟨hn, h1⟩
        · have hY := Lib.hid hy
          clear hy
          have hpos : 0 < (S p).size := by rw [S_size]; cases p <;> simp_all
          have hgd : (p.getD 0 0 == 48) = false → ((((S p)[0].toNat : Int)) == 48) = false := fun h => by rw [get_l, S_toList, eqc 48 (i := 48) rfl]; exact h
          rcases h4 with h4 | ⟨h4, h5⟩
          · clear hgd
            go_wp2_with fail
            refine (number_any _ _ hpm).mono ?_
            rintro e w' ⟨rfl, rfl⟩
            rw [S_toList]
            go_wp2_with (go_at_call 76; refine (digits_any _ _ hpm).mono ?_; rintro e w' ⟨rfl, rfl⟩)
            go_roundw
            case rel => exact ⟨k + 1, by omega, by go_num, hbel, by show _ = _; rw [hst.out, hall.out, hP.out, hY.out]; rfl⟩
            case measure => simp [intOf]; omega
          · have h6 := hgd h5
            clear hgd h5
            go_wp2_with fail
            refine (number_any _ _ hpm).mono ?_
            rintro e w' ⟨rfl, rfl⟩
            rw [S_toList]
            go_wp2_with (go_at_call 76; refine (digits_any _ _ hpm).mono ?_; rintro e w' ⟨rfl, rfl⟩)
            go_roundw
            case rel => exact ⟨k + 1, by omega, by go_num, hbel, by show _ = _; rw [hst.out, hall.out, hP.out, hY.out]; rfl⟩
            case measure => simp [intOf]; omega
        · have hN := Lib.hid hn
          clear hn
          rcases h1 with h1 | ⟨h1, h2⟩ | ⟨h1, h2, h3⟩ | ⟨h1, h2, h3, h4, h5⟩
          all_goals
            first
            | (have hpos : 0 < (S p).size := by rw [S_size]; cases p <;> simp_all
               have h6 : ((((S p)[0].toNat : Int)) == 48) = true := by rw [get_l, S_toList, eqc 48 (i := 48) rfl]; exact h5
               clear h5)
            | skip
            go_wp2_with fail
            refine (number_any _ _ hpm).mono ?_
            rintro e w' ⟨rfl, rfl⟩
            rw [S_toList]
            go_wp2_with (go_at_call 76; refine (digits_any _ _ hpm).mono ?_; rintro e w' ⟨rfl, rfl⟩)
            go_ret
            exact ⟨ret_bool (by rw [hF2.out, hbad.out (by rw [hP.out]; exact hN.out)]), hbw⟩
      · obtain rfl : k = l.length := by omega
        have hf := Lib.hid (show l.all partB = true by have := hall.out; rwa [List.take_length] at this)
        go_wp2
        go_ret
        exact ⟨ret_bool (by rw [hF2.out, hf.out]), hbw⟩
  · have h4i : ((l.length : Int) != 4) = true := by rw [bne_iff_ne]; omega
    go_wp2_with fail
    go_ret
    exact ⟨ret_bool (by rw [hF.out, decide_eq_false h4]; rfl), hb1⟩
end Go.Proofs.Ytgfoaopfdpclhaa
