/-
  The law HeaderFinds.
-/
import Derived.Test.YtonohkckflgcbaaHeader6
import Derived.Test.YtonohkckflgcbaaOpen
namespace Go.Proofs.Ytonohkckflgcbaa
open Go.RowKit
set_option linter.unusedVariables false

theorem lightB_lens {l : List (List UInt8 × List UInt8)} (h : lightB l = true) : l.length ≤ 40 ∧ ∀ p ∈ l, p.1.length ≤ 300 ∧ p.2.length ≤ 1100 := by
  unfold lightB lightP at h
  simp only [Bool.and_eq_true, decide_eq_true_eq, List.all_eq_true] at h
  exact h

set_option maxHeartbeats 2000000 in
theorem headerFinds (x : SlArg (List UInt8 × List UInt8)) (nm : ByteArray) (w : World) (hx : Rd w 2 (.slice x.A x.n x.c) x.n (cellsP x.l) ∧ ∀ q ∈ x.l, q.1.length ≤ maxLen ∧ q.2.length ≤ maxLen) (hn : nm.size ≤ maxLen) :
    Calls Try.prog 4 #[.slice x.A x.n x.c, .string nm] w fun e w' => e = .returned (.bool true) ∧ Below w.heap.size w w' := by
  obtain ⟨A, n, c, l⟩ := x
  obtain ⟨hR, _⟩ := hx
  simp only at hR ⊢
  have hn' := hn
  unfold maxLen at hn'
  by_cases hl : lightB l = true
  · have hll := lightB_lens hl
    have hlen := hR.len
    have hn40 : n ≤ 4294967296 := by omega
    have hl1 := Lib.hid (fun p (hp : p ∈ l) => show p.1.length ≤ maxLen by have := (hll.2 p hp).1; unfold maxLen; omega)
    have hl2 := Lib.hid (fun p (hp : p ∈ l) => show p.1.length ≤ 4294967296 by have := (hll.2 p hp).1; omega)
    clear hll
    by_cases h3 : 300 < nm.size
    · go_enter Try.func4, Try.ntmps4
      go_wp2_with fail
      refine (light12_any _ _ _ _ _ hR).mono ?_
      rintro e w1 ⟨rfl, hb1⟩
      rw [hl]
      go_wp2_with (go_at_call 11; refine (awake12 _).mono ?_; rintro e w7 ⟨rfl, hb7⟩)
      go_ret
      exact ⟨rfl, bel_call hb1 hb7⟩
    · have h3i : decide ((300 : Int) < nm.size) = false := decide_eq_false (by omega)
      have hn4 : nm.size ≤ 4294967296 := by omega
      clear h3
      go_enter Try.func4, Try.ntmps4
      go_wp2_with fail
      refine (light12_any _ _ _ _ _ hR).mono ?_
      rintro e w1 ⟨rfl, hb1⟩
      rw [hl]
      have hR1 := hR.below hb1
      go_wp2_with fail
      refine (own12_any _ _ _ _ _ hR1 hn40).mono ?_
      rintro e w2 ⟨A2, c2, rfl, hown2, hb2⟩
      have hO2 := Rd.of_own hown2
      have hR2 := hR1.below hb2
      have hB2 := bel_call hb1 hb2
      clear hown2 hb1 hb2 hR1
      go_wp2_with fail
      refine (find12_any _ _ _ _ nm _ hO2 hn hl1.out).mono ?_
      rintro e w3 ⟨rfl, hb3⟩
      have hR3 := hR2.below hb3
      have hB3 := bel_call hB2 hb3
      clear hb3 hR2 hO2 hB2
      go_wp2_with fail
      refine (refFind12_any _ _ _ _ nm _ hR3 hn4 hl2.out).mono ?_
      rintro e w4 ⟨rfl, hb4⟩
      have hB4 := bel_call hB3 hb4
      go_wp2_with (go_at_call 11; refine (awake12 _).mono ?_; rintro e w7 ⟨rfl, hb7⟩)
      go_ret
      exact ⟨rfl, bel_call hB4 hb7⟩
  · have hl' : lightB l = false := by simpa using hl
    clear hl
    go_enter Try.func4, Try.ntmps4
    go_wp2_with fail
    refine (light12_any _ _ _ _ _ hR).mono ?_
    rintro e w1 ⟨rfl, hb1⟩
    rw [hl']
    go_wp2_with (go_at_call 11; refine (awake12 _).mono ?_; rintro e w7 ⟨rfl, hb7⟩)
    go_ret
    exact ⟨rfl, bel_call hb1 hb7⟩
end Go.Proofs.Ytonohkckflgcbaa
