/-
  The law SuffixMatches: any name matches its public suffix, and its own.
-/
import Derived.Test.YtbijphfendaddaaSuf8
namespace Go.Proofs.Ytbijphfendaddaa
open Go.RowKit Go.Deep Go.WideShapes
set_option linter.unusedVariables false

set_option maxRecDepth 4000 in
set_option maxHeartbeats 4000000 in
theorem matches_any (A : Option Addr) (c : Nat) (rs : List (List UInt8)) (n : List UInt8) (w : World) (h : Rd w 1 (.slice A rs.length c) rs.length (rs.map strV)) (hnm : n.length ≤ maxLen) :
    Calls Try.prog 5 #[.slice A rs.length c, .string (S n)] w fun e w' => e = .returned (.bool true) ∧ Below w.heap.size w w' := by
  have hcap := h.cap
  unfold maxLen at hcap hnm
  obtain ⟨hca, hcb⟩ := hcap
  cases hl : lightS rs
  · have hL := Lib.hid hl
    clear hl
    go_enter Try.func5, Try.ntmps5
    go_wp2_with fail
    refine (light09_any A rs.length c rs _ h).mono ?_
    rintro e w1 ⟨rfl, hb1⟩
    rw [hL.out]
    go_wp2_with fail
    refine (awake09_any _).mono ?_
    rintro e w2 ⟨rfl, hbx⟩
    have hbz := bel_call hb1 hbx
    go_wp2
    go_ret
    exact ⟨rfl, hbz⟩
  by_cases hlong : 300 < n.length
  · have hL := Lib.hid hl
    have ai : (300 : Int) < n.length := by omega
    clear hl
    go_enter Try.func5, Try.ntmps5
    go_wp2_with fail
    refine (light09_any A rs.length c rs _ h).mono ?_
    rintro e w1 ⟨rfl, hb1⟩
    rw [hL.out]
    go_wp2_with fail
    refine (awake09_any _).mono ?_
    rintro e w2 ⟨rfl, hbx⟩
    have hbz := bel_call hb1 hbx
    go_wp2
    go_ret
    exact ⟨rfl, hbz⟩
  have hL := Lib.hid hl
  have h300 := lightS_lens hl
  have hrs : ∀ r ∈ rs, r.length ≤ 4294967296 := fun r hr => by have := h300 r hr; omega
  have ai : (n.length : Int) ≤ 300 := by omega
  have hn : n.length ≤ 4294967296 := by omega
  have hnz : (S n).size ≤ 4294967296 := by rw [S_size]; exact hn
  clear hl hlong
  by_cases he : (ofT rs n).2 = 0
  · obtain ⟨hm1, hcs⟩ := own_case he
    have hown0 := Lib.hid (show ownT rs n = if (ofT rs n).2 ≠ 0 ∨ (ofT rs n).1 = n then ([], false) else (tailL n (manyN (ofT rs n).1 + 1), true) from rfl)
    have hsl : (ofT rs n).1.length ≤ 4294967296 := by
      unfold ofT
      split
      · simp
      · split
        · exact Nat.le_trans (tail_len n (bestI n rs)) hn
        · simp
    generalize hR : ofT rs n = R at *
    have hRH := Lib.hid hR
    clear hR
    obtain ⟨s, e0⟩ := R
    simp only at he hm1 hcs hown0 hsl
    subst he
    have hmH := Lib.hid hm1
    have hsz : (S s).size ≤ 4294967296 := by rw [S_size]; exact hsl
    rcases hcs with hq | ⟨hq, hm2, hof⟩
    · have hO := Lib.hid (show ownT rs n = ([], false) from hown0.out.trans (if_pos (.inr hq)))
      obtain ⟨t, f, hX⟩ : ∃ t f, ofT rs [] = (t, f) := ⟨_, _, rfl⟩
      have hXH := Lib.hid hX
      clear hq hown0 hX hm1
      go_enter Try.func5, Try.ntmps5
      go_wp2_with fail
      refine (light09_any A rs.length c rs _ h).mono ?_
      rintro e w1 ⟨rfl, hb1⟩
      rw [hL.out]
      go_wp2_with fail
      refine (of_any A rs.length c rs n _ (h.below hb1) hrs hn).mono ?_
      rintro e w2 ⟨rfl, hb2⟩
      rw [hRH.out]
      have hbel2 := bel_call hb1 hb2
      clear hb1 hb2
      go_wp2_with fail
      refine (own_any A rs.length c rs n _ (h.below hbel2) hrs hn).mono ?_
      rintro e w3 ⟨rfl, hb3⟩
      rw [hO.out]
      have hbel3 := bel_call hbel2 hb3
      clear hbel2 hb3
      go_wp2_with fail
      refine (hmatch_any (S n) (S s) _ hnz hsz).mono ?_
      rintro e w4 ⟨rfl, hb4⟩
      rw [S_toList, S_toList, hmH.out]
      have hbel4 := bel_call hbel3 hb4
      clear hbel3 hb4
      go_wp2_with fail
      refine (of_any A rs.length c rs [] _ (h.below hbel4) hrs (by decide)).mono ?_
      rintro e w5 ⟨rfl, hb5⟩
      rw [hXH.out]
      have hbel5 := bel_call hbel4 hb5
      clear hbel4 hb5
      go_wp2_with fail
      refine (awake09_any _).mono ?_
      rintro e w6 ⟨rfl, hbx⟩
      have hbz := bel_call hbel5 hbx
      go_wp2
      go_ret
      exact ⟨rfl, hbz⟩
    · have hO := Lib.hid (show ownT rs n = (tailL n (manyN s + 1), true) from hown0.out.trans (if_neg (by rintro (h | h); exact h rfl; exact hq h)))
      have hol : (tailL n ((manyN s : Int) + 1)).length ≤ 4294967296 := by have := tail_len n ((manyN s : Int) + 1); omega
      have hm2H := Lib.hid hm2
      clear hq hown0 hm1 hm2
      generalize tailL n ((manyN s : Int) + 1) = o at *
      have hoz : (S o).size ≤ 4294967296 := by rw [S_size]; exact hol
      rcases hof with hof | hof
      all_goals
        have hofH := Lib.hid hof
        clear hof
        go_enter Try.func5, Try.ntmps5
        go_wp2_with fail
        refine (light09_any A rs.length c rs _ h).mono ?_
        rintro e w1 ⟨rfl, hb1⟩
        rw [hL.out]
        go_wp2_with fail
        refine (of_any A rs.length c rs n _ (h.below hb1) hrs hn).mono ?_
        rintro e w2 ⟨rfl, hb2⟩
        rw [hRH.out]
        have hbel2 := bel_call hb1 hb2
        clear hb1 hb2
        go_wp2_with fail
        refine (own_any A rs.length c rs n _ (h.below hbel2) hrs hn).mono ?_
        rintro e w3 ⟨rfl, hb3⟩
        rw [hO.out]
        have hbel3 := bel_call hbel2 hb3
        clear hbel2 hb3
        go_wp2_with fail
        refine (hmatch_any (S n) (S s) _ hnz hsz).mono ?_
        rintro e w4 ⟨rfl, hb4⟩
        rw [S_toList, S_toList, hmH.out]
        have hbel4 := bel_call hbel3 hb4
        clear hbel3 hb4
        go_wp2_with fail
        refine (hmatch_any (S n) (S o) _ hnz hoz).mono ?_
        rintro e w5 ⟨rfl, hb5⟩
        rw [S_toList, S_toList, hm2H.out]
        have hbel5 := bel_call hbel4 hb5
        clear hbel4 hb5
        go_wp2_with fail
        refine (of_any A rs.length c rs o _ (h.below hbel5) hrs hol).mono ?_
        rintro e w6 ⟨rfl, hb6⟩
        rw [hofH.out]
        have hbel6 := bel_call hbel5 hb6
        clear hbel5 hb6
        go_wp2_with fail
        refine (awake09_any _).mono ?_
        rintro e w7 ⟨rfl, hbx⟩
        have hbz := bel_call hbel6 hbx
        go_wp2
        go_ret
        exact ⟨rfl, hbz⟩
  · obtain ⟨s, e0, hR⟩ : ∃ s e0, ofT rs n = (s, e0) := ⟨_, _, rfl⟩
    have hRH := Lib.hid hR
    rw [hR] at he
    have hne : (e0 != 0) = true := by simpa using he
    clear hR he
    go_enter Try.func5, Try.ntmps5
    go_wp2_with fail
    refine (light09_any A rs.length c rs _ h).mono ?_
    rintro e w1 ⟨rfl, hb1⟩
    rw [hL.out]
    go_wp2_with fail
    refine (of_any A rs.length c rs n _ (h.below hb1) hrs hn).mono ?_
    rintro e w2 ⟨rfl, hb2⟩
    rw [hRH.out]
    have hbel2 := bel_call hb1 hb2
    clear hb1 hb2
    go_wp2_with fail
    refine (awake09_any _).mono ?_
    rintro e w3 ⟨rfl, hbx⟩
    have hbz := bel_call hbel2 hbx
    go_wp2
    go_ret
    exact ⟨rfl, hbz⟩
theorem suffixMatches (x : SlArg (List UInt8)) (nm : ByteArray) (w : World) (hx : Rd w 1 (.slice x.A x.n x.c) x.n (x.l.map strV) ∧ ∀ q ∈ x.l, q.length ≤ maxLen) (hnm : nm.size ≤ maxLen) :
    Calls Try.prog 5 #[.slice x.A x.n x.c, .string nm] w fun e w' => e = .returned (.bool true) ∧ Below w.heap.size w w' := by
  obtain ⟨A, n, c, l⟩ := x
  have hlen := hx.1.texts.1
  simp only at hx hlen ⊢
  subst hlen
  have := matches_any A c l nm.toList w hx.1 (by rw [← size_toList]; exact hnm)
  rw [S_of] at this
  exact this
end Go.Proofs.Ytbijphfendaddaa
