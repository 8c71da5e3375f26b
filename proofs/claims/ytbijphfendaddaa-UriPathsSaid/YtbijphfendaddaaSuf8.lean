/-
  The law SuffixMatches.
-/
import Derived.Test.YtbijphfendaddaaSuf7
import Derived.Test.YtbijphfendaddaaSufP3
namespace Go.Proofs.Ytbijphfendaddaa
open Go.RowKit Go.Deep Go.WideShapes
set_option linter.unusedVariables false

theorem dropK_len (k : Nat) (l : List UInt8) : (dropK k l).length ≤ l.length := by
  induction k generalizing l with
  | zero => exact Nat.le_refl _
  | succ k ih =>
    have h1 := ih (cutD l).2.1
    have h2 := cutD_len l
    show (dropK k (cutD l).2.1).length ≤ _
    omega
theorem tail_len (l : List UInt8) (b : Int) : (tailL l b).length ≤ l.length := dropK_len _ _
theorem of_case {rs : List (List UInt8)} {n : List UInt8} (h : (ofT rs n).2 = 0) : checkI rs = 0 ∧ nameB n = true ∧ ofT rs n = (tailL n (bestI n rs), 0) := by
  unfold ofT at h ⊢
  by_cases hc : checkI rs ≠ 0
  · rw [if_pos hc] at h; exact absurd h hc
  · rw [if_neg hc] at h ⊢
    cases hn : nameB n
    · rw [hn, if_neg (by decide)] at h; cases h
    · exact ⟨by simpa using hc, rfl, if_pos rfl⟩
theorem check_all {rs : List (List UInt8)} (h : checkI rs = 0) : rs.all ruleOk = true := by
  unfold checkI at h
  split at h
  · cases h
  · split at h
    · assumption
    · cases h
/-- A name's own public suffix with one label more, and what is known of it. -/
def ownT (rs : List (List UInt8)) (n : List UInt8) : List UInt8 × Bool := if (ofT rs n).2 ≠ 0 ∨ (ofT rs n).1 = n then ([], false) else (tailL n (manyN (ofT rs n).1 + 1), true)
theorem own_case {rs : List (List UInt8)} {n : List UInt8} (h : (ofT rs n).2 = 0) : matchB n (ofT rs n).1 = true ∧ ((ofT rs n).1 = n ∨ ((ofT rs n).1 ≠ n ∧ matchB n (tailL n (manyN (ofT rs n).1 + 1)) = true ∧
    (ofT rs (tailL n (manyN (ofT rs n).1 + 1)) = ((ofT rs n).1, 0) ∨ ofT rs (tailL n (manyN (ofT rs n).1 + 1)) = ([], 1)))) := by
  obtain ⟨hc, hn, he⟩ := of_case h
  have hall := check_all hc
  obtain ⟨b1, b2⟩ := best_bd (n := n) hall
  rw [he]
  simp only
  refine ⟨(tail_canon hn b1 b2).2, ?_⟩
  by_cases hs : tailL n (bestI n rs) = n
  · exact .inl hs
  · right
    have hlt : bestI n rs < (Lab n).length := by
      have hne : bestI n rs ≠ (Lab n).length := fun e => hs (lab_inj (by
        rw [(tail_lab b1 b2).1, show (Lab n).length - (bestI n rs).toNat = 0 by omega]; rfl))
      omega
    have hm : (manyN (tailL n (bestI n rs)) : Int) = bestI n rs := by
      rw [many_lab, (tail_lab b1 b2).1, List.length_drop]
      omega
    rw [hm]
    refine ⟨hs, (tail_canon hn (by omega) (by omega)).2, ?_⟩
    unfold ofT
    rw [hc, if_neg (by simp)]
    cases ho : nameB (tailL n (bestI n rs + 1))
    · exact .inr (if_neg (by decide))
    · left
      rw [if_pos rfl, best_own hall hlt]
      have e1 := (tail_lab b1 b2).1
      have e2 := (tail_lab (n := n) (b := bestI n rs + 1) (by omega) (by omega)).1
      have e3 := (tail_lab (n := tailL n (bestI n rs + 1)) (b := bestI n rs) b1 (by rw [e2, List.length_drop]; omega)).1
      have : tailL (tailL n (bestI n rs + 1)) (bestI n rs) = tailL n (bestI n rs) := by
        apply lab_inj
        rw [e3, e2, e1, List.length_drop, List.drop_drop]
        congr 1
        omega
      rw [this]

set_option maxHeartbeats 2000000 in
theorem own_any (A : Option Addr) (n0 c : Nat) (rs : List (List UInt8)) (n : List UInt8) (w : World) (h : Rd w 1 (.slice A n0 c) n0 (rs.map strV)) (hrs : ∀ r ∈ rs, r.length ≤ 4294967296) (hn : n.length ≤ 4294967296) :
    Calls Try.prog 12 #[.slice A n0 c, .string (S n)] w fun e w' => e = .returned (.tuple #[.string (S (ownT rs n).1), .bool (ownT rs n).2]) ∧ Below w.heap.size w w' := by
  have hr := Lib.hid (show ownT rs n = if (ofT rs n).2 ≠ 0 ∨ (ofT rs n).1 = n then ([], false) else (tailL n (manyN (ofT rs n).1 + 1), true) from rfl)
  have hsl : (ofT rs n).1.length ≤ n.length := by
    unfold ofT
    split
    · simp
    · split
      · exact tail_len _ _
      · simp
  generalize hR : ofT rs n = R at *
  have hRH := Lib.hid hR
  clear hR
  obtain ⟨s, e0⟩ := R
  simp only at hr hsl
  by_cases he : e0 = 0
  · subst he
    cases hq : (s == n) with
    | true =>
      have hT := Lib.hid (show ownT rs n = ([], false) from hr.out.trans (if_pos (.inr (by simpa using hq))))
      clear hr
      go_enter Try.func12, Try.ntmps12
      go_wp2_with fail
      refine (of_any A n0 c rs n _ h hrs hn).mono ?_
      rintro e w1 ⟨rfl, hb1⟩
      rw [hRH.out]
      go_wp2
      go_ret2
      rw [hT.out]
      exact ⟨rfl, hb1⟩
    | false =>
      have hT := Lib.hid (show ownT rs n = (tailL n (manyN s + 1), true) from hr.out.trans (if_neg (by rintro (h | h); exact h rfl; rw [h] at hq; simp at hq)))
      have hsz : (S s).size ≤ 4294967296 := by rw [S_size]; omega
      have hmb : manyN s ≤ 4294967297 := by
        have := List.count_le_length (a := (46 : UInt8)) (l := s)
        unfold manyN; omega
      clear hr
      go_enter Try.func12, Try.ntmps12
      go_wp2_with fail
      refine (of_any A n0 c rs n _ h hrs hn).mono ?_
      rintro e w1 ⟨rfl, hb1⟩
      rw [hRH.out]
      go_wp2_with fail
      refine (many_any (S s) _ hsz).mono ?_
      rintro e w' ⟨rfl, rfl⟩
      rw [S_toList]
      generalize manyN s = m at *
      go_wp2_with fail
      refine (tail_any n ((m : Int) + 1) _ hn (by omega) (by omega)).mono ?_
      rintro e w2 ⟨rfl, hb2⟩
      have hb := bel_call hb1 hb2
      go_wp2
      go_ret2
      rw [hT.out]
      exact ⟨rfl, hb⟩
  · have hT := Lib.hid (show ownT rs n = ([], false) from hr.out.trans (if_pos (.inl he)))
    have hne : (e0 != 0) = true := by simpa using he
    clear hr he
    go_enter Try.func12, Try.ntmps12
    go_wp2_with fail
    refine (of_any A n0 c rs n _ h hrs hn).mono ?_
    rintro e w1 ⟨rfl, hb1⟩
    rw [hRH.out]
    go_wp2
    go_ret2
    rw [hT.out]
    exact ⟨rfl, hb1⟩
end Go.Proofs.Ytbijphfendaddaa
