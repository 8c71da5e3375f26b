/-
  The reference's public suffixes walked: tails, rules.
-/
import Derived.Test.YtbijphfendaddaaSufR1
import Derived.Test.YtbijphfendaddaaHost8
namespace Go.Proofs.Ytbijphfendaddaa
open Go.RowKit
set_option linter.unusedVariables false

theorem name_labels {n : List UInt8} (h : nameB n = true) : ∀ x ∈ Lab n, x ≠ [] := by
  unfold nameB at h
  simp only [Bool.and_eq_true, List.all_eq_true] at h
  intro x hx e
  have := h.2 x hx
  rw [e] at this
  exact absurd this (by decide)
theorem tail_ne {n : List UInt8} (h : nameB n = true) {j : Nat} (h1 : 1 ≤ j) (h2 : j ≤ (Lab n).length) : tailL n j ≠ [] := by
  obtain ⟨i, rfl⟩ : ∃ i, j = i + 1 := ⟨j - 1, by omega⟩
  by_cases hi : 1 ≤ i
  · rw [show (((i + 1 : Nat)) : Int) = (i : Int) + 1 by omega, tail_more hi (by omega)]
    simp
  · obtain rfl : i = 0 := by omega
    rw [show (((0 + 1 : Nat)) : Int) = 1 from rfl, tail_last]
    exact name_labels h _ (List.getElem_mem _)

set_option maxRecDepth 100000 in
set_option maxHeartbeats 3000000 in
theorem refTail_any (n : List UInt8) (b : Nat) (w : World) (hn : nameB n = true) (hl : n.length ≤ 4294967296) (h1 : 1 ≤ b) (h2 : b ≤ (Lab n).length) :
    Calls Try.prog 39 #[.string (S n), .int .i64 b] w fun e w' => e = .returned (.string (S (tailL n b))) ∧ Below w.heap.size w w' := by
  have hz : (S n).size ≤ 4294967296 := by rw [S_size]; exact hl
  have hll := split_len n 46
  have hpl := Lib.hid (split_part n 46)
  have htn := Lib.hid (fun (j : Nat) => tail_ne hn (j := j))
  have htm := Lib.hid (fun (j : Nat) => tail_more (n := n) (b := j))
  have htl := Lib.hid (tail_last (n := n))
  have hlen := Lib.hid (tail_len n)
  have hLb : (splitL n 46).length = (Lab n).length := rfl
  go_enter Try.func39, Try.ntmps39
  go_wp2_with fail
  refine (refSplit_any (S n) 46 _ hz).mono ?_
  rintro e w1 ⟨A, c, rfl, hown, hb1⟩
  rw [S_toList] at hown ⊢
  have hrd := Rd.of_own hown
  clear hown
  replace hrd : Rd w1 1 (.slice A (Lab n).length c) (Lab n).length ((Lab n).map strV) := hrd
  rw [hLb] at hll ⊢
  go_wp2
  go_loopw [6, 7] (fun vs vi wr => ∃ (k : Nat) (s : List UInt8), vi = .int .i64 ((k : Int) - 1) ∧ vs = .string (S s) ∧ k ≤ (Lab n).length ∧ (Lab n).length - b ≤ k ∧ Below w1.heap.size w1 wr ∧ ((k = (Lab n).length ∧ s = []) ∨ (k < (Lab n).length ∧ s = tailL n (((Lab n).length - k : Nat) : Int)))) (fun _ vi _ => (intOf vi + 1).toNat)
  case atStart => exact ⟨(Lab n).length, [], rfl, rfl, Nat.le_refl _, by omega, Below.refl _ _, .inl ⟨rfl, rfl⟩⟩
  case round =>
    obtain ⟨k, s, rfl, rfl, hk, hkb, hbel, hs⟩ := hrel
    by_cases hgo : (Lab n).length - b < k
    · obtain ⟨k', rfl⟩ : ∃ k', k = k' + 1 := ⟨k - 1, by omega⟩
      have hke : (((k' + 1 : Nat)) : Int) - 1 = (k' : Int) := by omega
      rw [hke]
      have hk2 : k' < (Lab n).length := by omega
      have hki : ((Lab n).length : Int) - b ≤ k' := by omega
      have hki2 : (k' : Int) < (Lab n).length := by omega
      obtain ⟨bb, off, rfl, hbb, hx⟩ := (hrd.below hbel).texts.2 k' hk2
      have hlx : (Lab n)[k'].length ≤ n.length := hpl.out _ (List.getElem_mem hk2)
      rcases hs with ⟨h3, rfl⟩ | ⟨h3, rfl⟩
      · have hst := Lib.hid (show (Lab n)[k'] = tailL n (((Lab n).length - k' : Nat) : Int) by
          rw [show (((Lab n).length - k' : Nat) : Int) = 1 by omega, htl.out]
          congr 1
          omega)
        generalize (Lab n)[k'] = x at *
        go_wp2
        go_roundw
        case rel => exact ⟨k', x, rfl, rfl, by omega, by omega, hbel, .inr ⟨hk2, hst.out⟩⟩
        case measure => simp [intOf]
      · have hst := Lib.hid (show (Lab n)[k'] ++ 46 :: tailL n (((Lab n).length - (k' + 1) : Nat) : Int) = tailL n (((Lab n).length - k' : Nat) : Int) by
          rw [show (((Lab n).length - k' : Nat) : Int) = (((Lab n).length - (k' + 1) : Nat) : Int) + 1 by omega, htm.out _ (by omega) (by omega)]
          congr 2
          omega)
        have hne := htn.out ((Lab n).length - (k' + 1)) (by omega) (by omega)
        have hl2 := hlen.out (((Lab n).length - (k' + 1) : Nat) : Int)
        generalize (Lab n)[k'] = x at *
        generalize tailL n (((Lab n).length - (k' + 1) : Nat) : Int) = t at *
        have hq : (t == []) = false := by rw [beq_eq_false_iff_ne]; exact hne
        have hz1 : (x.length : Int) + 1 ≤ 9223372036854775807 := by omega
        have hz2 : (x.length : Int) + 1 + (t.length : Int) ≤ 9223372036854775807 := by omega
        clear hne htn htm htl hlen hpl hl2
        go_wp2
        go_roundw
        case rel => exact ⟨k', x ++ 46 :: t, rfl, by congr 1; show S x ++ S [46] ++ S t = _; rw [S_append, S_append]; simp, by omega, by omega, hbel, .inr ⟨hk2, hst.out⟩⟩
        case measure => simp [intOf]
    · have hkk : k = (Lab n).length - b := by omega
      subst hkk
      have hs2 : s = tailL n b := by
        rcases hs with ⟨h3, _⟩ | ⟨_, h3⟩
        · omega
        · rw [h3]; congr 1; omega
      subst hs2
      have hki : ¬ (((Lab n).length : Int) - b ≤ (((Lab n).length - b : Nat) : Int) - 1) := by omega
      have hbel2 := bel_call hb1 hbel
      go_wp2
      all_goals
        go_ret
        exact ⟨rfl, hbel2⟩
end Go.Proofs.Ytbijphfendaddaa
