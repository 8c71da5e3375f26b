/-
  The law SuffixOf: any name's public suffix by any rules, or why it has none. Printed by gen_so.py.
-/
import Derived.Test.YtbijphfendaddaaSufR4
namespace Go.Proofs.Ytbijphfendaddaa
open Go.RowKit Go.Deep Go.WideShapes
set_option linter.unusedVariables false

theorem ofT_bad {rs : List (List UInt8)} {n : List UInt8} {e : Int} (he : e ≠ 0) (h : ofT rs n = ([], e)) : ownT rs n = ([], false) ∧ publicB rs n = false := by
  unfold ownT publicB
  rw [h, if_pos (.inl he)]
  exact ⟨rfl, by simp [he]⟩
theorem ofT_good {rs : List (List UInt8)} {n : List UInt8} (hall : rs.all ruleOk = true) (hl : rs.length ≤ 256) (hn : nameB n = true) : checkI rs = 0 ∧ ofT rs n = (tailL n (bestI n rs), 0) := by
  have e : checkI rs = 0 := by unfold checkI; rw [if_neg (by omega), if_pos hall]
  refine ⟨e, ?_⟩
  unfold ofT
  rw [if_neg (by simp [e]), hn]
  rfl
theorem own_parts {n : List UInt8} {b : Int} (hn : nameB n = true) (h1 : 1 ≤ b) (h2 : b < (Lab n).length) :
    ∃ x, x ≠ [] ∧ (46 : UInt8) ∉ x ∧ tailL n ((manyN (tailL n b) : Int) + 1) = x ++ 46 :: tailL n b := by
  obtain ⟨m, rfl⟩ : ∃ m : Nat, b = m := ⟨b.toNat, by omega⟩
  have e : manyN (tailL n m) = m := by rw [many_lab]; exact (tail_labN (by omega) (by omega)).2.1
  rw [e, tail_more (by omega) (by omega)]
  refine ⟨_, name_labels hn _ (List.getElem_mem _), ?_, rfl⟩
  have := lab_nodot (List.getElem_mem (l := Lab n) (n := (Lab n).length - 1 - m) (by omega))
  have h3 := congrArg List.length this
  rw [← many_lab] at h3
  unfold manyN at h3
  simp only [List.length_singleton] at h3
  exact List.count_eq_zero.1 (by omega)

set_option maxRecDepth 100000 in
set_option maxHeartbeats 8000000 in
theorem suffixOf_any (A : Option Addr) (c : Nat) (rs : List (List UInt8)) (n : List UInt8) (w : World) (h : Rd w 1 (.slice A rs.length c) rs.length (rs.map strV)) (hnm : n.length ≤ maxLen) :
    Calls Try.prog 4 #[.slice A rs.length c, .string (S n)] w fun e w' => e = .returned (.bool true) ∧ Below w.heap.size w w' := by
  have hcap := h.cap
  unfold maxLen at hcap hnm
  obtain ⟨hca, hcb⟩ := hcap
  cases hl : lightS rs
  · have hL := Lib.hid hl
    clear hl
    go_enter Try.func4, Try.ntmps4
    go_wp2_with fail
    refine (light09_any A rs.length c rs _ h).mono ?_
    rintro e w1 ⟨rfl, hb1⟩
    rw [hL.out]
    go_wp2_with fail
    refine (awake09_any _).mono ?_
    rintro e wa ⟨rfl, hba⟩
    have hbz := bel_call hb1 hba
    go_wp2
    go_ret
    exact ⟨rfl, hbz⟩
  by_cases hlong : 300 < n.length
  · have hL := Lib.hid hl
    have ai : (300 : Int) < n.length := by omega
    clear hl
    go_enter Try.func4, Try.ntmps4
    go_wp2_with fail
    refine (light09_any A rs.length c rs _ h).mono ?_
    rintro e w1 ⟨rfl, hb1⟩
    rw [hL.out]
    go_wp2_with fail
    refine (awake09_any _).mono ?_
    rintro e wa ⟨rfl, hba⟩
    have hbz := bel_call hb1 hba
    go_wp2
    go_ret
    exact ⟨rfl, hbz⟩
  have hL := Lib.hid hl
  have h300 := lightS_lens hl
  have hrs : ∀ r ∈ rs, r.length ≤ 4294967296 := fun r hr => by have := h300 r hr; omega
  have ai : (n.length : Int) ≤ 300 := by omega
  have hn : n.length ≤ 4294967296 := by omega
  have hnz : (S n).size ≤ 4294967296 := by rw [S_size]; exact hn
  clear hl hlong h300
  by_cases h256 : 256 < rs.length
  · have hC := Lib.hid (show checkI rs = 3 by unfold checkI; exact if_pos h256)
    have hR := show ofT rs n = ([], 3) by unfold ofT; rw [if_pos (by simp [hC.out]), hC.out]
    have hRH := Lib.hid hR
    have hO := Lib.hid (ofT_bad (by decide) hR).1
    have hP := Lib.hid (ofT_bad (by decide) hR).2
    have li : (256 : Int) < rs.length := by omega
    clear hR h256
    cases hall : rs.all ruleOk
    all_goals
      have hRt := Lib.hid hall
      clear hall
      go_enter Try.func4, Try.ntmps4
      go_wp2_with fail
      refine (light09_any A rs.length c rs _ h).mono ?_
      rintro e w1 ⟨rfl, hbel1⟩
      rw [hL.out]
      go_wp2_with fail
      refine (of_any A rs.length c rs n _ (h.below hbel1) hrs hn).mono ?_
      rintro e w2 ⟨rfl, hb2⟩
      rw [hRH.out]
      have hbel2 := bel_call hbel1 hb2
      clear hbel1 hb2
      go_wp2_with fail
      refine (own_any A rs.length c rs n _ (h.below hbel2) hrs hn).mono ?_
      rintro e w3 ⟨rfl, hb3⟩
      rw [hO.out]
      have hbel3 := bel_call hbel2 hb3
      clear hbel2 hb3
      go_wp2_with fail
      refine (public_any A rs.length c rs n _ (h.below hbel3) hrs hn).mono ?_
      rintro e w4 ⟨rfl, hb4⟩
      rw [hP.out]
      have hbel4 := bel_call hbel3 hb4
      clear hbel3 hb4
      go_wp2_with fail
      refine (refRight09_any A c rs _ (h.below hbel4) hrs).mono ?_
      rintro e w5 ⟨rfl, hb5⟩
      rw [hRt.out]
      have hbel5 := bel_call hbel4 hb5
      clear hbel4 hb5
      go_wp2_with fail
      refine (check_any A rs.length c rs _ (h.below hbel5) hrs).mono ?_
      rintro e w6 ⟨rfl, hb6⟩
      rw [hC.out]
      have hbel6 := bel_call hbel5 hb6
      clear hbel5 hb6
      go_wp2_with fail
      refine (awake09_any _).mono ?_
      rintro e wa ⟨rfl, hba⟩
      have hbz := bel_call hbel6 hba
      go_wp2
      go_ret
      exact ⟨rfl, hbz⟩
  have li : (rs.length : Int) ≤ 256 := by omega
  cases hall : rs.all ruleOk
  · have hC := Lib.hid (show checkI rs = 1 by unfold checkI; rw [if_neg h256, hall]; rfl)
    have hR := show ofT rs n = ([], 1) by unfold ofT; rw [if_pos (by simp [hC.out]), hC.out]
    have hRH := Lib.hid hR
    have hO := Lib.hid (ofT_bad (by decide) hR).1
    have hP := Lib.hid (ofT_bad (by decide) hR).2
    have hRt := Lib.hid hall
    clear hR h256 hall
    go_enter Try.func4, Try.ntmps4
    go_wp2_with fail
    refine (light09_any A rs.length c rs _ h).mono ?_
    rintro e w1 ⟨rfl, hbel1⟩
    rw [hL.out]
    go_wp2_with fail
    refine (of_any A rs.length c rs n _ (h.below hbel1) hrs hn).mono ?_
    rintro e w2 ⟨rfl, hb2⟩
    rw [hRH.out]
    have hbel2 := bel_call hbel1 hb2
    clear hbel1 hb2
    go_wp2_with fail
    refine (own_any A rs.length c rs n _ (h.below hbel2) hrs hn).mono ?_
    rintro e w3 ⟨rfl, hb3⟩
    rw [hO.out]
    have hbel3 := bel_call hbel2 hb3
    clear hbel2 hb3
    go_wp2_with fail
    refine (public_any A rs.length c rs n _ (h.below hbel3) hrs hn).mono ?_
    rintro e w4 ⟨rfl, hb4⟩
    rw [hP.out]
    have hbel4 := bel_call hbel3 hb4
    clear hbel3 hb4
    go_wp2_with fail
    refine (refRight09_any A c rs _ (h.below hbel4) hrs).mono ?_
    rintro e w5 ⟨rfl, hb5⟩
    rw [hRt.out]
    have hbel5 := bel_call hbel4 hb5
    clear hbel4 hb5
    go_wp2_with fail
    refine (check_any A rs.length c rs _ (h.below hbel5) hrs).mono ?_
    rintro e w6 ⟨rfl, hb6⟩
    rw [hC.out]
    have hbel6 := bel_call hbel5 hb6
    clear hbel5 hb6
    go_wp2_with fail
    refine (awake09_any _).mono ?_
    rintro e wa ⟨rfl, hba⟩
    have hbz := bel_call hbel6 hba
    go_wp2
    go_ret
    exact ⟨rfl, hbz⟩
  have hRt := Lib.hid hall
  have hC := Lib.hid (show checkI rs = 0 by unfold checkI; rw [if_neg h256, if_pos hall])
  cases hnb : nameB n
  · have hR := show ofT rs n = ([], 1) by unfold ofT; rw [if_neg (by simp [hC.out]), hnb]; rfl
    have hRH := Lib.hid hR
    have hO := Lib.hid (ofT_bad (by decide) hR).1
    have hP := Lib.hid (ofT_bad (by decide) hR).2
    have hN := Lib.hid hnb
    clear hR h256 hall hnb
    go_enter Try.func4, Try.ntmps4
    go_wp2_with fail
    refine (light09_any A rs.length c rs _ h).mono ?_
    rintro e w1 ⟨rfl, hbel1⟩
    rw [hL.out]
    go_wp2_with fail
    refine (of_any A rs.length c rs n _ (h.below hbel1) hrs hn).mono ?_
    rintro e w2 ⟨rfl, hb2⟩
    rw [hRH.out]
    have hbel2 := bel_call hbel1 hb2
    clear hbel1 hb2
    go_wp2_with fail
    refine (own_any A rs.length c rs n _ (h.below hbel2) hrs hn).mono ?_
    rintro e w3 ⟨rfl, hb3⟩
    rw [hO.out]
    have hbel3 := bel_call hbel2 hb3
    clear hbel2 hb3
    go_wp2_with fail
    refine (public_any A rs.length c rs n _ (h.below hbel3) hrs hn).mono ?_
    rintro e w4 ⟨rfl, hb4⟩
    rw [hP.out]
    have hbel4 := bel_call hbel3 hb4
    clear hbel3 hb4
    go_wp2_with fail
    refine (refRight09_any A c rs _ (h.below hbel4) hrs).mono ?_
    rintro e w5 ⟨rfl, hb5⟩
    rw [hRt.out]
    have hbel5 := bel_call hbel4 hb5
    clear hbel4 hb5
    go_wp2_with fail
    refine (check_any A rs.length c rs _ (h.below hbel5) hrs).mono ?_
    rintro e w6 ⟨rfl, hb6⟩
    rw [hC.out]
    have hbel6 := bel_call hbel5 hb6
    clear hbel5 hb6
    go_wp2_with fail
    refine (refName_any (S n) _ hnz).mono ?_
    rintro e w7 ⟨rfl, hb7⟩
    rw [S_toList, hN.out]
    have hbel7 := bel_call hbel6 hb7
    clear hbel6 hb7
    go_wp2_with fail
    refine (awake09_any _).mono ?_
    rintro e wa ⟨rfl, hba⟩
    have hbz := bel_call hbel7 hba
    go_wp2
    go_ret
    exact ⟨rfl, hbz⟩
  have hN := Lib.hid hnb
  have hR := (ofT_good hall (by omega) hnb).2
  obtain ⟨hb1, hb2⟩ := best_bd (n := n) hall
  have hcs := own_case (rs := rs) (n := n) (by rw [hR])
  rw [hR] at hcs
  simp only at hcs
  obtain ⟨hm1, hcs⟩ := hcs
  have hsl : (tailL n (bestI n rs)).length ≤ n.length := tail_len n _
  by_cases hq : tailL n (bestI n rs) = n
  · have hRH := Lib.hid (show ofT rs n = (n, 0) by rw [hR, hq])
    have hO := Lib.hid (show ownT rs n = ([], false) by unfold ownT; rw [hR, if_pos (.inr hq)])
    have hP := Lib.hid (show publicB rs n = true by unfold publicB; rw [hR]; simp [hq])
    have hB := Lib.hid hq
    clear hR h256 hall hnb hb1 hb2 hcs hm1 hq hsl
    go_enter Try.func4, Try.ntmps4
    go_wp2_with fail
    refine (light09_any A rs.length c rs _ h).mono ?_
    rintro e w1 ⟨rfl, hbel1⟩
    rw [hL.out]
    go_wp2_with fail
    refine (of_any A rs.length c rs n _ (h.below hbel1) hrs hn).mono ?_
    rintro e w2 ⟨rfl, hb2⟩
    rw [hRH.out]
    have hbel2 := bel_call hbel1 hb2
    clear hbel1 hb2
    go_wp2_with fail
    refine (own_any A rs.length c rs n _ (h.below hbel2) hrs hn).mono ?_
    rintro e w3 ⟨rfl, hb3⟩
    rw [hO.out]
    have hbel3 := bel_call hbel2 hb3
    clear hbel2 hb3
    go_wp2_with fail
    refine (public_any A rs.length c rs n _ (h.below hbel3) hrs hn).mono ?_
    rintro e w4 ⟨rfl, hb4⟩
    rw [hP.out]
    have hbel4 := bel_call hbel3 hb4
    clear hbel3 hb4
    go_wp2_with fail
    refine (refRight09_any A c rs _ (h.below hbel4) hrs).mono ?_
    rintro e w5 ⟨rfl, hb5⟩
    rw [hRt.out]
    have hbel5 := bel_call hbel4 hb5
    clear hbel4 hb5
    go_wp2_with fail
    refine (check_any A rs.length c rs _ (h.below hbel5) hrs).mono ?_
    rintro e w6 ⟨rfl, hb6⟩
    rw [hC.out]
    have hbel6 := bel_call hbel5 hb6
    clear hbel5 hb6
    go_wp2_with fail
    refine (refName_any (S n) _ hnz).mono ?_
    rintro e w7 ⟨rfl, hb7⟩
    rw [S_toList, hN.out]
    have hbel7 := bel_call hbel6 hb7
    clear hbel6 hb7
    go_wp2_with fail
    refine (refOf09_any A c rs n _ (h.below hbel7) hrs hn hN.out hRt.out).mono ?_
    rintro e w8 ⟨rfl, hb8⟩
    rw [hB.out]
    have hbel8 := bel_call hbel7 hb8
    clear hbel7 hb8
    go_wp2_with fail
    refine (awake09_any _).mono ?_
    rintro e wa ⟨rfl, hba⟩
    have hbz := bel_call hbel8 hba
    go_wp2
    go_ret
    exact ⟨rfl, hbz⟩
  · have hlt : bestI n rs < (Lab n).length := by
      rcases Int.lt_or_eq_of_le hb2 with h3 | h3
      · exact h3
      · exfalso
        apply hq
        apply lab_inj
        rw [(tail_lab hb1 hb2).1, h3, show (Lab n).length - (((Lab n).length : Nat) : Int).toNat = 0 by omega]
        rfl
    obtain ⟨x, hx1, hx2, hx3⟩ := own_parts hnb hb1 hlt
    have hM := (hcs.resolve_left hq).2.1
    have hO0 := show ownT rs n = (tailL n ((manyN (tailL n (bestI n rs)) : Int) + 1), true) by unfold ownT; rw [hR, if_neg (by rintro (h | h); exact h rfl; exact hq h)]
    have hP := Lib.hid (show publicB rs n = false by unfold publicB; rw [hR]; simp [hq])
    have hol := tail_len n ((manyN (tailL n (bestI n rs)) : Int) + 1)
    rw [hx3] at hM hO0 hol
    clear hcs hx3 hm1
    obtain ⟨s, hs⟩ : ∃ s, tailL n (bestI n rs) = s := ⟨_, rfl⟩
    rw [hs] at hR hM hO0 hol hsl hq
    have hB := Lib.hid hs
    have hRH := Lib.hid hR
    have hqb : (s == n) = false := by rw [beq_eq_false_iff_ne]; exact hq
    have hxl : 0 < x.length := List.length_pos_iff.2 hx1
    obtain ⟨o, ho⟩ : ∃ o, x ++ 46 :: s = o := ⟨_, rfl⟩
    have hlen : o.length = x.length + 1 + s.length := by rw [← ho]; simp; omega
    have hd1 : (S o).extract (o.length - s.length - 1) o.length = S (46 :: s) := by
      rw [show (S o).extract (o.length - s.length - 1) o.length = (S o).extract (o.length - s.length - 1) (S o).size by rw [S_size], extract_from, S_toList, show o.length - s.length - 1 = x.length by omega, ← ho]
      simp
    have hd2 : (S o).extract 0 (o.length - s.length - 1) = S x := by
      rw [extract_to, S_toList, show o.length - s.length - 1 = x.length by omega, ← ho]
      simp
    rw [ho] at hM hO0 hol
    have hO := Lib.hid hO0
    have hMH := Lib.hid hM
    have hoz : (S o).size ≤ 4294967296 := by rw [S_size]; omega
    have li1 : (s.length : Int) + 1 < o.length := by omega
    have li2 : (0 : Int) ≤ (o.length : Int) - s.length - 1 := by omega
    have li3 : (o.length : Int) ≤ 300 := by omega
    have hxx : x.length ≤ 4294967296 := by omega
    have hx2H := Lib.hid hx2
    have hdd : (({ data := #[46] } : ByteArray) ++ S s).toList = 46 :: s := by show (S [46] ++ S s).toList = _; rw [S_append, S_toList]; rfl
    clear hR h256 hall hnb hb1 hb2 hq hsl hs hM hO0 hx1 hx2 ho hlt hlen hxl
    go_enter Try.func4, Try.ntmps4
    go_wp2_with fail
    refine (light09_any A rs.length c rs _ h).mono ?_
    rintro e w1 ⟨rfl, hbel1⟩
    rw [hL.out]
    go_wp2_with fail
    refine (of_any A rs.length c rs n _ (h.below hbel1) hrs hn).mono ?_
    rintro e w2 ⟨rfl, hb2⟩
    rw [hRH.out]
    have hbel2 := bel_call hbel1 hb2
    clear hbel1 hb2
    go_wp2_with fail
    refine (own_any A rs.length c rs n _ (h.below hbel2) hrs hn).mono ?_
    rintro e w3 ⟨rfl, hb3⟩
    rw [hO.out]
    have hbel3 := bel_call hbel2 hb3
    clear hbel2 hb3
    go_wp2_with fail
    refine (public_any A rs.length c rs n _ (h.below hbel3) hrs hn).mono ?_
    rintro e w4 ⟨rfl, hb4⟩
    rw [hP.out]
    have hbel4 := bel_call hbel3 hb4
    clear hbel3 hb4
    go_wp2_with fail
    refine (refRight09_any A c rs _ (h.below hbel4) hrs).mono ?_
    rintro e w5 ⟨rfl, hb5⟩
    rw [hRt.out]
    have hbel5 := bel_call hbel4 hb5
    clear hbel4 hb5
    go_wp2_with fail
    refine (check_any A rs.length c rs _ (h.below hbel5) hrs).mono ?_
    rintro e w6 ⟨rfl, hb6⟩
    rw [hC.out]
    have hbel6 := bel_call hbel5 hb6
    clear hbel5 hb6
    go_wp2_with fail
    refine (refName_any (S n) _ hnz).mono ?_
    rintro e w7 ⟨rfl, hb7⟩
    rw [S_toList, hN.out]
    have hbel7 := bel_call hbel6 hb7
    clear hbel6 hb7
    go_wp2_with fail
    refine (refOf09_any A c rs n _ (h.below hbel7) hrs hn hN.out hRt.out).mono ?_
    rintro e w8 ⟨rfl, hb8⟩
    rw [hB.out]
    have hbel8 := bel_call hbel7 hb8
    clear hbel7 hb8
    go_wp2_with fail
    refine (hmatch_any (S n) (S o) _ hnz hoz).mono ?_
    rintro e w9 ⟨rfl, hb9⟩
    rw [S_toList, S_toList, hMH.out]
    have hbel9 := bel_call hbel8 hb9
    clear hbel8 hb9
    go_wp2_with fail
    refine (holds_any x _ hxx hx2H.out).mono ?_
    rintro e wb ⟨rfl, rfl⟩
    go_wp2_with fail
    refine (awake09_any _).mono ?_
    rintro e wa ⟨rfl, hba⟩
    have hbz := bel_call hbel9 hba
    go_wp2
    go_ret
    exact ⟨rfl, hbz⟩
theorem suffixOf (x : SlArg (List UInt8)) (nm : ByteArray) (w : World) (hx : Rd w 1 (.slice x.A x.n x.c) x.n (x.l.map strV) ∧ ∀ q ∈ x.l, q.length ≤ maxLen) (hnm : nm.size ≤ maxLen) :
    Calls Try.prog 4 #[.slice x.A x.n x.c, .string nm] w fun e w' => e = .returned (.bool true) ∧ Below w.heap.size w w' := by
  obtain ⟨A, n, c, l⟩ := x
  have hlen := hx.1.texts.1
  simp only at hx hlen ⊢
  subst hlen
  have := suffixOf_any A c l nm.toList w hx.1 (by rw [← size_toList]; exact hnm)
  rw [S_of] at this
  exact this
end Go.Proofs.Ytbijphfendaddaa
