/-
  Joined texts: SufR2 SufR3 SufP4 SufR4.
-/
import Derived.Test.YtgfoaopfdpclhaaGreatDoorBu21
import Derived.Test.YtgfoaopfdpclhaaGreatDoorBu22
namespace Go.Proofs.YtgfoaopfdpclhaaGreatDoor
open Go.RowKit
set_option linter.unusedVariables false
set_option maxRecDepth 100000

theorem name_labels {n : List UInt8} (h : nameB n = true) : ∀ x ∈ Lab n, x ≠ [] := by
  unfold nameB at h
  simp only [Bool.and_eq_true, List.all_eq_true] at h
  intro x hx e
  have := h.2 x hx
  rw [e] at this
  exact absurd this (by decide)
theorem tail_ne {n : List UInt8} (h : nameB n = true) {j : Nat} (h1 : 1 ≤ j) (h2 : j ≤ (Lab n).length) : tailL n j ≠ [] := by
  obtain ⟨i, rfl⟩ : ∃ i, j = i + 1 := ⟨j - 1, by omega⟩
  by_cases hi : 1 ≤ i
  · rw [show (((i + 1 : Nat)) : Int) = (i : Int) + 1 by omega, tail_more hi (by omega)]
    simp
  · obtain rfl : i = 0 := by omega
    rw [show (((0 + 1 : Nat)) : Int) = 1 from rfl, tail_last]
    exact name_labels h _ (List.getElem_mem _)

set_option maxRecDepth 100000 in
set_option maxHeartbeats 3000000 in
theorem refTail_any (n : List UInt8) (b : Nat) (w : World) (hn : nameB n = true) (hl : n.length ≤ 4294967296) (h1 : 1 ≤ b) (h2 : b ≤ (Lab n).length) :
    Calls Tryz.prog 80 #[.string (S n), .int .i64 b] w fun e w' => e = .returned (.string (S (tailL n b))) ∧ Below w.heap.size w w' := by
  have hz : (S n).size ≤ 4294967296 := by rw [S_size]; exact hl
  have hll := split_len n 46
  have hpl := Lib.hid (split_part n 46)
  have htn := Lib.hid (fun (j : Nat) => tail_ne hn (j := j))
  have htm := Lib.hid (fun (j : Nat) => tail_more (n := n) (b := j))
  have htl := Lib.hid (tail_last (n := n))
  have hlen := Lib.hid (tail_len n)
  have hLb : (splitL n 46).length = (Lab n).length := rfl
  go_enter Tryz.func80, Tryz.ntmps80
  go_wp2_with fail
  refine (refSplit_any (S n) 46 _ hz).mono ?_
  rintro e w1 ⟨A, c, rfl, hown, hb1⟩
  rw [S_toList] at hown ⊢
  have hrd := Rd.of_own hown
  clear hown
  replace hrd : Rd w1 1 (.slice A (Lab n).length c) (Lab n).length ((Lab n).map strV) := hrd
  rw [hLb] at hll ⊢
  go_wp2
  go_loopw [6, 7] (fun vs vi wr => ∃ (k : Nat) (s : List UInt8), vi = .int .i64 ((k : Int) - 1) ∧ vs = .string (S s) ∧ k ≤ (Lab n).length ∧ (Lab n).length - b ≤ k ∧ Below w1.heap.size w1 wr ∧ ((k = (Lab n).length ∧ s = []) ∨ (k < (Lab n).length ∧ s = tailL n (((Lab n).length - k : Nat) : Int)))) (fun _ vi _ => (intOf vi + 1).toNat)
  case atStart => exact ⟨(Lab n).length, [], rfl, rfl, Nat.le_refl _, by omega, Below.refl _ _, .inl ⟨rfl, rfl⟩⟩
  case round =>
    obtain ⟨k, s, rfl, rfl, hk, hkb, hbel, hs⟩ := hrel
    by_cases hgo : (Lab n).length - b < k
    · obtain ⟨k', rfl⟩ : ∃ k', k = k' + 1 := ⟨k - 1, by omega⟩
      have hke : (((k' + 1 : Nat)) : Int) - 1 = (k' : Int) := by omega
      rw [hke]
      have hk2 : k' < (Lab n).length := by omega
      have hki : ((Lab n).length : Int) - b ≤ k' := by omega
      have hki2 : (k' : Int) < (Lab n).length := by omega
      obtain ⟨bb, off, rfl, hbb, hx⟩ := (hrd.below hbel).texts.2 k' hk2
      have hlx : (Lab n)[k'].length ≤ n.length := hpl.out _ (List.getElem_mem hk2)
      rcases hs with ⟨h3, rfl⟩ | ⟨h3, rfl⟩
      · have hst := Lib.hid (show (Lab n)[k'] = tailL n (((Lab n).length - k' : Nat) : Int) by
          rw [show (((Lab n).length - k' : Nat) : Int) = 1 by omega, htl.out]
          congr 1
          omega)
        generalize (Lab n)[k'] = x at *
        go_wp2
        go_roundw
        case rel => exact ⟨k', x, rfl, rfl, by omega, by omega, hbel, .inr ⟨hk2, hst.out⟩⟩
        case measure => simp [intOf]
      · have hst := Lib.hid (show (Lab n)[k'] ++ 46 :: tailL n (((Lab n).length - (k' + 1) : Nat) : Int) = tailL n (((Lab n).length - k' : Nat) : Int) by
          rw [show (((Lab n).length - k' : Nat) : Int) = (((Lab n).length - (k' + 1) : Nat) : Int) + 1 by omega, htm.out _ (by omega) (by omega)]
          congr 2
          omega)
        have hne := htn.out ((Lab n).length - (k' + 1)) (by omega) (by omega)
        have hl2 := hlen.out (((Lab n).length - (k' + 1) : Nat) : Int)
        generalize (Lab n)[k'] = x at *
        generalize tailL n (((Lab n).length - (k' + 1) : Nat) : Int) = t at *
        have hq : (t == []) = false := by rw [beq_eq_false_iff_ne]; exact hne
        have hz1 : (x.length : Int) + 1 ≤ 9223372036854775807 := by omega
        have hz2 : (x.length : Int) + 1 + (t.length : Int) ≤ 9223372036854775807 := by omega
        clear hne htn htm htl hlen hpl hl2
        go_wp2
        go_roundw
        case rel => exact ⟨k', x ++ 46 :: t, rfl, by congr 1; show S x ++ S [46] ++ S t = _; rw [S_append, S_append]; simp, by omega, by omega, hbel, .inr ⟨hk2, hst.out⟩⟩
        case measure => simp [intOf]
    · have hkk : k = (Lab n).length - b := by omega
      subst hkk
      have hs2 : s = tailL n b := by
        rcases hs with ⟨h3, _⟩ | ⟨_, h3⟩
        · omega
        · rw [h3]; congr 1; omega
      subst hs2
      have hki : ¬ (((Lab n).length : Int) - b ≤ (((Lab n).length - b : Nat) : Int) - 1) := by omega
      have hbel2 := bel_call hb1 hbel
      go_wp2
      all_goals
        go_ret
        exact ⟨rfl, hbel2⟩
end Go.Proofs.YtgfoaopfdpclhaaGreatDoor
namespace Go.Proofs.YtgfoaopfdpclhaaGreatDoor
open Go.RowKit
set_option linter.unusedVariables false
set_option maxRecDepth 100000

theorem splitR_len (l : List UInt8) : (splitR l).2.length ≤ l.length := by
  unfold splitR
  split
  · simp
  · split
    · simp
    · exact Nat.le_refl _
theorem splitR_sign (l : List UInt8) : (splitR l).1 = 42 ∨ (splitR l).1 = 33 ∨ (splitR l).1 = 0 := by
  unfold splitR
  split
  · exact .inl rfl
  · split
    · exact .inr (.inl rfl)
    · exact .inr (.inr rfl)

set_option maxRecDepth 4000 in
set_option maxHeartbeats 2000000 in
theorem refRule09_any (l : List UInt8) (w : World) (hl : l.length ≤ 4294967296) :
    Calls Tryz.prog 59 #[.string (S l)] w fun e w' => e = .returned (.bool (ruleOk l)) ∧ Below w.heap.size w w' := by
  have hT := Lib.hid ((rule_eq l).symm.trans (show refRuleB l = (nameB (splitR l).2 && (decide ((splitR l).1 ≠ 33) || decide (0 ≤ findL (splitR l).2 46))) from rfl))
  have hlen := splitR_len l
  have hsg := splitR_sign l
  obtain ⟨sg, nm, hS⟩ : ∃ sg nm, splitR l = (sg, nm) := ⟨_, _, rfl⟩
  rw [hS] at hT hlen hsg
  have hSH := Lib.hid hS
  clear hS
  simp only at hT hlen hsg
  have hnz : (S nm).size ≤ 4294967296 := by rw [S_size]; omega
  have hnm : (S nm).size ≤ maxLen := by unfold maxLen; omega
  cases hnb : nameB nm
  · have hnH := Lib.hid hnb
    rw [hnb] at hT
    clear hnb hsg
    go_enter Tryz.func59, Tryz.ntmps59
    go_wp2_with fail
    refine (refSplit09_any l _ hl).mono ?_
    rintro e w1 ⟨rfl, hb1⟩
    rw [hSH.out]
    go_wp2_with fail
    refine (refName_any (S nm) _ hnz).mono ?_
    rintro e w2 ⟨rfl, hb2⟩
    have hbz := bel_call hb1 hb2
    rw [S_toList, hnH.out]
    go_wp2
    go_ret
    rw [hT.out]
    exact ⟨rfl, hbz⟩
  · have hnH := Lib.hid hnb
    rw [hnb] at hT
    clear hnb
    rcases hsg with rfl | rfl | rfl
    · go_enter Tryz.func59, Tryz.ntmps59
      go_wp2_with fail
      refine (refSplit09_any l _ hl).mono ?_
      rintro e w1 ⟨rfl, hb1⟩
      rw [hSH.out]
      go_wp2_with fail
      refine (refName_any (S nm) _ hnz).mono ?_
      rintro e w2 ⟨rfl, hb2⟩
      have hbz := bel_call hb1 hb2
      rw [S_toList, hnH.out]
      go_wp2
      go_ret
      rw [hT.out]
      exact ⟨rfl, hbz⟩
    · have hT2 := Lib.hid (hT.out.trans (show (true && (decide ((33 : Int) ≠ 33) || decide (0 ≤ findL nm 46))) = decide (0 ≤ findL nm 46) by simp))
      clear hT
      go_enter Tryz.func59, Tryz.ntmps59
      go_wp2_with fail
      refine (refSplit09_any l _ hl).mono ?_
      rintro e w1 ⟨rfl, hb1⟩
      rw [hSH.out]
      go_wp2_with fail
      refine (refName_any (S nm) _ hnz).mono ?_
      rintro e w2 ⟨rfl, hb2⟩
      have hbz := bel_call hb1 hb2
      rw [S_toList, hnH.out]
      go_wp2_with fail
      refine (refFind_any (S nm) 46 _ hnm).mono ?_
      rintro e w3 ⟨rfl, rfl⟩
      rw [S_toList]
      generalize findL nm 46 = fi at *
      go_wp2
      go_ret
      rw [hT2.out]
      exact ⟨rfl, hbz⟩
    · go_enter Tryz.func59, Tryz.ntmps59
      go_wp2_with fail
      refine (refSplit09_any l _ hl).mono ?_
      rintro e w1 ⟨rfl, hb1⟩
      rw [hSH.out]
      go_wp2_with fail
      refine (refName_any (S nm) _ hnz).mono ?_
      rintro e w2 ⟨rfl, hb2⟩
      have hbz := bel_call hb1 hb2
      rw [S_toList, hnH.out]
      go_wp2
      go_ret
      rw [hT.out]
      exact ⟨rfl, hbz⟩

theorem all_take_no {rs : List (List UInt8)} {k : Nat} (h : k < rs.length) (hn : ruleOk rs[k] = false) : rs.all ruleOk = false := by
  rw [List.all_eq_false]
  exact ⟨_, List.getElem_mem h, by rw [hn]; decide⟩

set_option maxHeartbeats 2000000 in
theorem refRight09_any (A : Option Addr) (c : Nat) (rs : List (List UInt8)) (w : World) (h : Rd w 1 (.slice A rs.length c) rs.length (rs.map strV)) (hrs : ∀ r ∈ rs, r.length ≤ 4294967296) :
    Calls Tryz.prog 26 #[.slice A rs.length c] w fun e w' => e = .returned (.bool (rs.all ruleOk)) ∧ Below w.heap.size w w' := by
  have hcap := h.cap
  unfold maxLen at hcap
  obtain ⟨hca, hcb⟩ := hcap
  go_enter Tryz.func26, Tryz.ntmps26
  go_wp2
  go_loopw [3] (fun i wr => ∃ k : Nat, i = .int .i64 k ∧ k ≤ rs.length ∧ Below w.heap.size w wr ∧ Hid ((rs.take k).all ruleOk = true)) (fun i _ => rs.length - (intOf i).toNat)
  case atStart => exact ⟨0, rfl, by omega, Below.refl _ _, Lib.hid rfl⟩
  case round =>
    obtain ⟨k, rfl, hk, hbel, hin⟩ := hrel
    by_cases hlt : k < rs.length
    · have hki : (k : Int) < rs.length := by omega
      obtain ⟨b, off, rfl, hb, hx⟩ := (h.below hbel).texts.2 k hlt
      have hrl := hrs _ (List.getElem_mem hlt)
      cases hok : ruleOk rs[k]
      · have hno := Lib.hid (all_take_no hlt hok)
        have hokH := Lib.hid hok
        clear hok hin
        generalize rs[k] = tk at *
        go_wp2_with fail
        refine (refRule09_any tk _ hrl).mono ?_
        rintro e w3 ⟨rfl, hb3⟩
        rw [hokH.out]
        have hbel3 := bel_call hbel hb3
        go_wp2
        go_ret
        rw [hno.out]
        exact ⟨rfl, hbel3⟩
      · have hin2 := Lib.hid (show (rs.take (k + 1)).all ruleOk = true by rw [all_take_stepL hlt, hin.out, hok]; rfl)
        have hokH := Lib.hid hok
        clear hok hin
        generalize rs[k] = tk at *
        go_wp2_with fail
        refine (refRule09_any tk _ hrl).mono ?_
        rintro e w3 ⟨rfl, hb3⟩
        rw [hokH.out]
        have hbel3 := bel_call hbel hb3
        go_wp2
        go_roundw
        case rel => exact ⟨k + 1, by go_num, by omega, hbel3, hin2⟩
        case measure => simp [intOf]; omega
    · obtain rfl : k = rs.length := by omega
      have hfin := Lib.hid (show rs.all ruleOk = true by have := hin.out; rwa [List.take_length] at this)
      clear hin
      go_wp2
      go_ret
      rw [hfin.out]
      exact ⟨rfl, hbel⟩

end Go.Proofs.YtgfoaopfdpclhaaGreatDoor
namespace Go.Proofs.YtgfoaopfdpclhaaGreatDoor
open Go.RowKit
set_option linter.unusedVariables false
set_option maxRecDepth 100000

theorem tail_labN {n : List UInt8} {m : Nat} (h1 : 1 ≤ m) (h2 : m ≤ (Lab n).length) : Lab (tailL n m) = (Lab n).drop ((Lab n).length - m) ∧ (Lab (tailL n m)).length = m ∧ Suf (Lab (tailL n m)) (Lab n) := by
  have e := (tail_lab (n := n) (b := (m : Int)) (by omega) (by omega)).1
  have e2 : (Lab n).length - ((m : Int)).toNat = (Lab n).length - m := by omega
  rw [e2] at e
  have e3 : (Lab (tailL n m)).length = m := by rw [e, List.length_drop]; omega
  refine ⟨e, e3, ?_⟩
  unfold Suf
  rw [e3, e]
  exact ⟨h2, rfl⟩
theorem suf_tail {n t : List UInt8} (h : Suf (Lab t) (Lab n)) : t = tailL n (Lab t).length := by
  apply lab_inj
  rw [(tail_labN (lab_pos t) h.1).1]
  exact h.2.symm
theorem sign_any (r : Ru) : signI r = 42 ↔ r.an = true := by
  unfold signI
  cases r.an <;> cases r.nt <;> simp
theorem sign_not {x : List UInt8} : signI (ruleT x) = 33 ↔ (ruleT x).nt = true := by
  have := rule_ex x
  unfold signI
  cases ha : (ruleT x).an <;> cases hb : (ruleT x).nt <;> simp_all
theorem sign_no (r : Ru) : signI r = 0 ↔ r.an = false ∧ r.nt = false := by
  unfold signI
  cases r.an <;> cases r.nt <;> simp
/-- A not rule that is the name's end. -/
theorem not_iff {n x : List UInt8} {m : Nat} (hx : ruleOk x = true) (h1 : 1 ≤ m) (h2 : m ≤ (Lab n).length) : ((splitR x).1 = 33 ∧ (splitR x).2 = tailL n m) ↔ cE n (ruleT x) = m := by
  rw [split_rule hx, sign_not]
  obtain ⟨t1, t2, t3⟩ := tail_labN h1 h2
  constructor
  · rintro ⟨a, b⟩
    simp only at b
    have hs : Suf (Lab (ruleT x).nm) (Lab n) := by rw [b]; exact t3
    rw [cE_of a hs, b, t2]
  · intro h
    obtain ⟨a, b, c⟩ := cE_pos (n := n) (r := ruleT x) (by omega)
    refine ⟨a, ?_⟩
    have hm : m = (Lab (ruleT x).nm).length := by omega
    show (ruleT x).nm = _
    rw [hm]
    exact suf_tail b
/-- A rule, or an any rule, that is the name's end. -/
theorem yes_iff {n x : List UInt8} {m : Nat} (hx : ruleOk x = true) (h1 : 1 ≤ m) (h2 : m ≤ (Lab n).length) :
    (((splitR x).1 = 0 ∧ (splitR x).2 = tailL n m) ∨ ((splitR x).1 = 42 ∧ 2 ≤ m ∧ (splitR x).2 = tailL n ((m : Int) - 1))) ↔ cB n (ruleT x) = m := by
  rw [split_rule hx, sign_no, sign_any]
  simp only
  constructor
  · rintro (⟨⟨a1, a2⟩, b⟩ | ⟨a, h3, b⟩)
    · obtain ⟨t1, t2, t3⟩ := tail_labN h1 h2
      have hs : Suf (Lab (ruleT x).nm) (Lab n) := by rw [b]; exact t3
      rw [cB_no a1 a2 hs, b, t2]
    · obtain ⟨t1, t2, t3⟩ := tail_labN (n := n) (m := m - 1) (by omega) (by omega)
      rw [show (m : Int) - 1 = ((m - 1 : Nat) : Int) by omega] at b
      have hs : Suf (Lab (ruleT x).nm) (Lab n) := by rw [b]; exact t3
      rw [cB_an a hs (by rw [b, t2]; omega), b, t2]
      omega
  · intro h
    rcases cB_pos (n := n) (r := ruleT x) (by omega) with ⟨a, b, c, d⟩ | ⟨a1, a2, b, d⟩
    · have hp := lab_pos (ruleT x).nm
      refine .inr ⟨a, by omega, ?_⟩
      rw [show (m : Int) - 1 = ((Lab (ruleT x).nm).length : Int) by omega]
      exact suf_tail b
    · refine .inl ⟨⟨a1, a2⟩, ?_⟩
      rw [show (m : Int) = ((Lab (ruleT x).nm).length : Int) by omega]
      exact suf_tail b
theorem cE_le (n : List UInt8) (r : Ru) : cE n r ≤ (Lab n).length := by
  by_cases h : 0 < cE n r
  · obtain ⟨_, b, c⟩ := cE_pos h
    have := b.1
    omega
  · omega
theorem cB_le (n : List UInt8) (r : Ru) : cB n r ≤ (Lab n).length := by
  by_cases h : 0 < cB n r
  · rcases cB_pos h with ⟨_, b, c, d⟩ | ⟨_, _, b, d⟩
    · have := b.1; omega
    · have := b.1; omega
  · omega
theorem best_not {n : List UInt8} {rs : List (List UInt8)} {m : Nat} {x : List UInt8} (hx : x ∈ rs) (h1 : 1 ≤ m) (h : cE n (ruleT x) = m) (hm : ∀ y ∈ rs, cE n (ruleT y) ≤ m) : bestI n rs = (m : Int) - 1 := by
  obtain ⟨_, b1, b2, b3⟩ := foldR_spec n rs (1, 0) (by decide) (by decide)
  have hge := b2 x hx
  have hle : (foldR n rs (1, 0)).2 ≤ m := by
    rcases b3 with h3 | ⟨y, hy, h3⟩
    · rw [h3]; show (0 : Int) ≤ m; omega
    · rw [h3]; exact hm y hy
  have e : (foldR n rs (1, 0)).2 = m := by omega
  unfold bestI
  rw [e, if_pos (by omega)]
theorem best_none {n : List UInt8} {rs : List (List UInt8)} (hm : ∀ y ∈ rs, cE n (ruleT y) ≤ 0) : bestI n rs = (foldR n rs (1, 0)).1 := by
  obtain ⟨_, b1, b2, b3⟩ := foldR_spec n rs (1, 0) (by decide) (by decide)
  have hle : (foldR n rs (1, 0)).2 ≤ 0 := by
    rcases b3 with h3 | ⟨y, hy, h3⟩
    · rw [h3]; exact Int.le_refl _
    · rw [h3]; exact hm y hy
  unfold bestI
  rw [if_neg (by omega)]
theorem best_yes {n : List UInt8} {rs : List (List UInt8)} {m : Nat} {x : List UInt8} (h0 : ∀ y ∈ rs, cE n (ruleT y) ≤ 0) (hx : x ∈ rs) (h1 : 1 ≤ m) (h : cB n (ruleT x) = m) (hm : ∀ y ∈ rs, cB n (ruleT y) ≤ m) : bestI n rs = m := by
  rw [best_none h0]
  obtain ⟨⟨b1, b2, b3⟩, _⟩ := foldR_spec n rs (1, 0) (by decide) (by decide)
  have hge := b2 x hx
  rcases b3 with h3 | ⟨y, hy, h3⟩
  · rw [h3] at hge ⊢; simp only at hge ⊢; omega
  · have := hm y hy; omega
theorem best_one {n : List UInt8} {rs : List (List UInt8)} (h0 : ∀ y ∈ rs, cE n (ruleT y) ≤ 0) (hm : ∀ y ∈ rs, cB n (ruleT y) ≤ 0) : bestI n rs = 1 := by
  rw [best_none h0]
  obtain ⟨⟨b1, b2, b3⟩, _⟩ := foldR_spec n rs (1, 0) (by decide) (by decide)
  rcases b3 with h3 | ⟨y, hy, h3⟩
  · rw [h3]
  · have := hm y hy
    have b1' : (1 : Int) ≤ (foldR n rs (1, 0)).1 := b1
    omega
theorem le_step {rs : List (List UInt8)} {f : List UInt8 → Int} {m : Nat} (h1 : 1 ≤ m) (h : ∀ y ∈ rs, f y ≤ m) (hn : ∀ y ∈ rs.take rs.length, f y ≠ m) : ∀ y ∈ rs, f y ≤ ((m - 1 : Nat) : Int) := by
  intro y hy
  have a := h y hy
  have b := hn y (by rw [List.take_length]; exact hy)
  omega
theorem ne_step {rs : List (List UInt8)} {f : List UInt8 → Int} {m : Int} {k : Nat} (hk : k < rs.length) (h : ∀ y ∈ rs.take k, f y ≠ m) (hn : f rs[k] ≠ m) : ∀ y ∈ rs.take (k + 1), f y ≠ m := by
  intro y hy
  rw [List.take_succ_eq_append_getElem hk, List.mem_append, List.mem_singleton] at hy
  rcases hy with hy | rfl
  · exact h y hy
  · exact hn
end Go.Proofs.YtgfoaopfdpclhaaGreatDoor
namespace Go.Proofs.YtgfoaopfdpclhaaGreatDoor
open Go.RowKit
set_option linter.unusedVariables false
set_option maxRecDepth 100000

set_option maxRecDepth 4000 in
set_option maxHeartbeats 8000000 in
theorem refOf09_any (A : Option Addr) (c : Nat) (rs : List (List UInt8)) (n : List UInt8) (w : World) (h : Rd w 1 (.slice A rs.length c) rs.length (rs.map strV)) (hrs : ∀ r ∈ rs, r.length ≤ 4294967296)
    (hl : n.length ≤ 4294967296) (hnb : nameB n = true) (hall : rs.all ruleOk = true) :
    Calls Tryz.prog 42 #[.slice A rs.length c, .string (S n)] w fun e w' => e = .returned (.string (S (tailL n (bestI n rs)))) ∧ Below w.heap.size w w' := by
  have hcap := h.cap
  unfold maxLen at hcap
  obtain ⟨hca, hcb⟩ := hcap
  have hN := lab_pos n
  have hN2 := split_len n 46
  replace hN2 : (Lab n).length ≤ n.length + 1 := hN2
  rw [List.all_eq_true] at hall
  have hallH := Lib.hid hall
  have hrsH := Lib.hid hrs
  have hE0 := Lib.hid (fun (y : List UInt8) (_ : y ∈ rs) => cE_le n (ruleT y))
  have hB0 := Lib.hid (fun (y : List UInt8) (_ : y ∈ rs) => cB_le n (ruleT y))
  have htl1 := Lib.hid (fun (m : Nat) (h1 : 1 ≤ m) (h2 : m ≤ (Lab n).length) (w : World) => refTail_any n m w hnb hl h1 h2)
  clear hall hrs hnb
  go_enter Tryz.func42, Tryz.ntmps42
  go_wp2_with fail
  refine (refCount_any n _ hl).mono ?_
  rintro e w1 ⟨rfl, hb1⟩
  go_wp2
  go_loopw [6] (fun i wr => ∃ m : Nat, i = .int .i64 m ∧ m ≤ (Lab n).length ∧ Below w.heap.size w wr ∧ Hid (∀ y ∈ rs, cE n (ruleT y) ≤ m)) (fun i _ => (intOf i).toNat)
  case atStart => exact ⟨(Lab n).length, rfl, Nat.le_refl _, hb1, hE0⟩
  case round =>
    obtain ⟨m, rfl, hm, hbel, hin⟩ := hrel
    by_cases hgo : 1 ≤ m
    · have hmi : (1 : Int) ≤ m := by omega
      obtain ⟨wo, rfl⟩ : ∃ wo : World, wo = wr := ⟨_, rfl⟩
      go_wp2
      go_loopw [7] (fun i wr => ∃ k : Nat, i = .int .i64 k ∧ k ≤ rs.length ∧ Below w.heap.size w wr ∧ Hid (∀ y ∈ rs.take k, cE n (ruleT y) ≠ m)) (fun i _ => rs.length - (intOf i).toNat)
      case atStart => exact ⟨0, rfl, by omega, hbel, Lib.hid (by intro y hy; simp at hy)⟩
      case round =>
        clear hbel
        obtain ⟨k, rfl, hk, hbel, hjn⟩ := hrel
        by_cases hlt : k < rs.length
        · have hki : (k : Int) < rs.length := by omega
          obtain ⟨b, off, rfl, hb, hx⟩ := (h.below hbel).texts.2 k hlt
          have hrl := hrsH.out _ (List.getElem_mem hlt)
          have hmem := Lib.hid (List.getElem_mem hlt)
          have hst := Lib.hid (fun hne => ne_step (rs := rs) (f := fun y => cE n (ruleT y)) (m := (m : Int)) hlt hjn.out hne)
          have hiff := Lib.hid (not_iff (n := n) (m := m) (hallH.out _ (List.getElem_mem hlt)) hgo hm)
          generalize rs[k] = tk at *
          have hsg := splitR_sign tk
          obtain ⟨sg, nm, hS⟩ : ∃ sg nm, splitR tk = (sg, nm) := ⟨_, _, rfl⟩
          rw [hS] at hiff hsg
          have hSH := Lib.hid hS
          clear hS
          simp only at hiff hsg
          by_cases hs : sg = 33
          · subst hs
            clear hsg
            go_wp2_with fail
            refine (refSplit09_any tk _ hrl).mono ?_
            rintro e w3 ⟨rfl, hb3⟩
            rw [hSH.out]
            have hbel3 := bel_call hbel hb3
            clear hb3 hbel hx hb
            go_wp2_with fail
            refine (htl1.out m hgo hm _).mono ?_
            rintro e w4 ⟨rfl, hb4⟩
            have hbel4 := bel_call hbel3 hb4
            clear hb4 hbel3
            by_cases hq : nm = tailL n m
            · have hbest := Lib.hid (best_not (rs := rs) hmem.out hgo (hiff.out.1 ⟨by trivial, hq⟩) hin.out)
              have h2m : 2 ≤ m := by
                have hc := hiff.out.1 ⟨by trivial, hq⟩
                obtain ⟨p1, p2, p3⟩ := cE_pos (n := n) (r := ruleT tk) (by omega)
                have := rule_two (hallH.out _ hmem.out) p1
                omega
              have hqb : (nm == tailL n m) = true := by rw [beq_iff_eq]; exact hq
              clear hiff hst hin hjn hq
              generalize tailL n m = tm at *
              have ht3 := htl1.out (m - 1) (by omega) (by omega)
              rw [show ((m - 1 : Nat) : Int) = (m : Int) - 1 by omega] at ht3
              rw [← hbest.out] at ht3
              have hbe := Lib.hid hbest.out.symm
              clear hbest
              go_wp2_with fail
              rw [hbe.out]
              refine (ht3 _).mono ?_
              rintro e w5 ⟨rfl, hb5⟩
              have hbel5 := bel_call hbel4 hb5
              go_wp2
              go_ret
              exact ⟨rfl, hbel5⟩
            · have hst2 := Lib.hid (hst.out (fun e => hq (hiff.out.2 e).2))
              have hqb : (nm == tailL n m) = false := by rw [beq_eq_false_iff_ne]; exact hq
              clear hiff hst hjn hq
              generalize tailL n m = tm at *
              go_wp2
              go_roundw
              case rel => first | exact ⟨k + 1, by go_num, by omega, hbel4, hst2⟩ | exact ⟨k + 1, by omega, by omega, hst2⟩ | ((repeat apply Exists.intro); exact ⟨⟨k + 1, by go_num, by omega, hbel4, hst2⟩, rfl⟩)
              case measure => simp [intOf]; omega
          · have hst2 := Lib.hid (hst.out (fun e => hs (hiff.out.2 e).1))
            have hsb : (sg == 33) = false := by rw [beq_eq_false_iff_ne]; exact hs
            clear hiff hst hjn hs hsg
            go_wp2_with fail
            refine (refSplit09_any tk _ hrl).mono ?_
            rintro e w3 ⟨rfl, hb3⟩
            rw [hSH.out]
            have hbel3 := bel_call hbel hb3
            clear hb3 hbel hx hb
            go_wp2
            go_roundw
            case rel => first | exact ⟨k + 1, by go_num, by omega, hbel3, hst2⟩ | exact ⟨k + 1, by omega, by omega, hst2⟩ | ((repeat apply Exists.intro); exact ⟨⟨k + 1, by go_num, by omega, hbel3, hst2⟩, rfl⟩)
            case measure => simp [intOf]; omega
        · obtain rfl : k = rs.length := by omega
          have hin2 := Lib.hid (le_step hgo hin.out hjn.out)
          clear hin hjn
          go_wp2
          go_roundw
          case rel => exact ⟨m - 1, by rw [show (m : Int) - 1 = ((m - 1 : Nat) : Int) by omega], by omega, hbel, hin2⟩
          case measure => simp [intOf]; omega
    · obtain rfl : m = 0 := by omega
      have hE := Lib.hid (show ∀ y ∈ rs, cE n (ruleT y) ≤ 0 from hin.out)
      clear hin hE0
      go_wp2
      go_loopw [10] (fun i wr => ∃ m : Nat, i = .int .i64 m ∧ m ≤ (Lab n).length ∧ Below w.heap.size w wr ∧ Hid (∀ y ∈ rs, cB n (ruleT y) ≤ m)) (fun i _ => (intOf i).toNat)
      case atStart => exact ⟨(Lab n).length, rfl, Nat.le_refl _, hbel, hB0⟩
      case round =>
        clear hbel
        obtain ⟨m, rfl, hm, hbel, hin⟩ := hrel
        by_cases hgo : 1 ≤ m
        · have hmi : (1 : Int) ≤ m := by omega
          obtain ⟨wo, rfl⟩ : ∃ wo : World, wo = wr := ⟨_, rfl⟩
          go_wp2
          go_loopw [11] (fun i wr => ∃ k : Nat, i = .int .i64 k ∧ k ≤ rs.length ∧ Below w.heap.size w wr ∧ Hid (∀ y ∈ rs.take k, cB n (ruleT y) ≠ m)) (fun i _ => rs.length - (intOf i).toNat)
          case atStart => exact ⟨0, rfl, by omega, hbel, Lib.hid (by intro y hy; simp at hy)⟩
          case round =>
            clear hbel
            obtain ⟨k, rfl, hk, hbel, hjn⟩ := hrel
            by_cases hlt : k < rs.length
            · have hki : (k : Int) < rs.length := by omega
              obtain ⟨b, off, rfl, hb, hx⟩ := (h.below hbel).texts.2 k hlt
              have hrl := hrsH.out _ (List.getElem_mem hlt)
              have hmem := Lib.hid (List.getElem_mem hlt)
              have hst := Lib.hid (fun hne => ne_step (rs := rs) (f := fun y => cB n (ruleT y)) (m := (m : Int)) hlt hjn.out hne)
              have hiff := Lib.hid (yes_iff (n := n) (m := m) (hallH.out _ (List.getElem_mem hlt)) hgo hm)
              generalize rs[k] = tk at *
              have hsg := splitR_sign tk
              obtain ⟨sg, nm, hS⟩ : ∃ sg nm, splitR tk = (sg, nm) := ⟨_, _, rfl⟩
              rw [hS] at hiff hsg
              have hSH := Lib.hid hS
              clear hS
              simp only at hiff hsg
              by_cases hno : cB n (ruleT tk) = m
              · have hbest := Lib.hid (show tailL n (bestI n rs) = tailL n m by rw [best_yes hE.out hmem.out hgo hno hin.out])
                rcases hiff.out.2 hno with ⟨rfl, hq⟩ | ⟨rfl, h2m, hq⟩
                · have hqb : (nm == tailL n m) = true := by rw [beq_iff_eq]; exact hq
                  clear hiff hst hin hjn hq hno hsg
                  go_wp2_with fail
                  refine (refSplit09_any tk _ hrl).mono ?_
                  rintro e w3 ⟨rfl, hb3⟩
                  rw [hSH.out]
                  have hbel3 := bel_call hbel hb3
                  clear hb3 hbel hx hb
                  have ht3 := htl1.out m hgo hm
                  obtain ⟨tm, htm⟩ : ∃ tm, tailL n (m : Int) = tm := ⟨_, rfl⟩
                  rw [htm] at hqb ht3 hbest
                  clear htm
                  go_wp2_with fail
                  refine (ht3 _).mono ?_
                  rintro e w4 ⟨rfl, hb4⟩
                  have hbel4 := bel_call hbel3 hb4
                  clear hb4 hbel3
                  go_wp2_with fail
                  refine (ht3 _).mono ?_
                  rintro e w5 ⟨rfl, hb5⟩
                  have hbel5 := bel_call hbel4 hb5
                  go_wp2
                  go_ret
                  rw [hbest.out]
                  exact ⟨rfl, hbel5⟩
                · have hqb : (nm == tailL n ((m : Int) - 1)) = true := by rw [beq_iff_eq]; exact hq
                  have h2i : (2 : Int) ≤ m := by omega
                  clear hiff hst hin hjn hq hno hsg
                  go_wp2_with fail
                  refine (refSplit09_any tk _ hrl).mono ?_
                  rintro e w3 ⟨rfl, hb3⟩
                  rw [hSH.out]
                  have hbel3 := bel_call hbel hb3
                  clear hb3 hbel hx hb
                  have ht3 := htl1.out m hgo hm
                  have ht4 := htl1.out (m - 1) (by omega) (by omega)
                  rw [show ((m - 1 : Nat) : Int) = (m : Int) - 1 by omega] at ht4
                  obtain ⟨tm, htm⟩ : ∃ tm, tailL n (m : Int) = tm := ⟨_, rfl⟩
                  rw [htm] at ht3 hbest
                  clear htm
                  generalize tailL n ((m : Int) - 1) = tm2 at *
                  go_wp2_with fail
                  refine (ht4 _).mono ?_
                  rintro e w4 ⟨rfl, hb4⟩
                  have hbel4 := bel_call hbel3 hb4
                  clear hb4 hbel3
                  go_wp2_with fail
                  refine (ht3 _).mono ?_
                  rintro e w5 ⟨rfl, hb5⟩
                  have hbel5 := bel_call hbel4 hb5
                  go_wp2
                  go_ret
                  rw [hbest.out]
                  exact ⟨rfl, hbel5⟩
              · have hst2 := Lib.hid (hst.out hno)
                have hn1 := Lib.hid (fun h1 => hno (hiff.out.1 (.inl h1)))
                have hn2 := Lib.hid (fun h1 => hno (hiff.out.1 (.inr h1)))
                clear hiff hst hjn hno
                rcases hsg with rfl | rfl | rfl
                · by_cases h2m : 2 ≤ m
                  · have hqb : (nm == tailL n ((m : Int) - 1)) = false := by rw [beq_eq_false_iff_ne]; exact fun e => hn2.out ⟨rfl, h2m, e⟩
                    have h2i : (2 : Int) ≤ m := by omega
                    clear hn1 hn2
                    go_wp2_with fail
                    refine (refSplit09_any tk _ hrl).mono ?_
                    rintro e w3 ⟨rfl, hb3⟩
                    rw [hSH.out]
                    have hbel3 := bel_call hbel hb3
                    clear hb3 hbel hx hb
                    have ht4 := htl1.out (m - 1) (by omega) (by omega)
                    rw [show ((m - 1 : Nat) : Int) = (m : Int) - 1 by omega] at ht4
                    generalize tailL n ((m : Int) - 1) = tm2 at *
                    go_wp2_with fail
                    refine (ht4 _).mono ?_
                    rintro e w4 ⟨rfl, hb4⟩
                    have hbel4 := bel_call hbel3 hb4
                    clear hb4 hbel3
                    go_wp2
                    go_roundw
                    case rel => first | exact ⟨k + 1, by go_num, by omega, hbel4, hst2⟩ | exact ⟨k + 1, by omega, by omega, hst2⟩ | ((repeat apply Exists.intro); exact ⟨⟨k + 1, by go_num, by omega, hbel4, hst2⟩, rfl⟩)
                    case measure => simp [intOf]; omega
                  · have h2i : (m : Int) < 2 := by omega
                    clear hn1 hn2
                    go_wp2_with fail
                    refine (refSplit09_any tk _ hrl).mono ?_
                    rintro e w3 ⟨rfl, hb3⟩
                    rw [hSH.out]
                    have hbel3 := bel_call hbel hb3
                    clear hb3 hbel hx hb
                    go_wp2
                    go_roundw
                    case rel => first | exact ⟨k + 1, by go_num, by omega, hbel3, hst2⟩ | exact ⟨k + 1, by omega, by omega, hst2⟩ | ((repeat apply Exists.intro); exact ⟨⟨k + 1, by go_num, by omega, hbel3, hst2⟩, rfl⟩)
                    case measure => simp [intOf]; omega
                · clear hn1 hn2
                  go_wp2_with fail
                  refine (refSplit09_any tk _ hrl).mono ?_
                  rintro e w3 ⟨rfl, hb3⟩
                  rw [hSH.out]
                  have hbel3 := bel_call hbel hb3
                  clear hb3 hbel hx hb
                  go_wp2
                  go_roundw
                  case rel => first | exact ⟨k + 1, by go_num, by omega, hbel3, hst2⟩ | exact ⟨k + 1, by omega, by omega, hst2⟩ | ((repeat apply Exists.intro); exact ⟨⟨k + 1, by go_num, by omega, hbel3, hst2⟩, rfl⟩)
                  case measure => simp [intOf]; omega
                · have hqb : (nm == tailL n m) = false := by rw [beq_eq_false_iff_ne]; exact fun e => hn1.out ⟨rfl, e⟩
                  clear hn1 hn2
                  go_wp2_with fail
                  refine (refSplit09_any tk _ hrl).mono ?_
                  rintro e w3 ⟨rfl, hb3⟩
                  rw [hSH.out]
                  have hbel3 := bel_call hbel hb3
                  clear hb3 hbel hx hb
                  have ht4 := htl1.out m hgo hm
                  generalize tailL n m = tm2 at *
                  go_wp2_with fail
                  refine (ht4 _).mono ?_
                  rintro e w4 ⟨rfl, hb4⟩
                  have hbel4 := bel_call hbel3 hb4
                  clear hb4 hbel3
                  go_wp2
                  go_roundw
                  case rel => first | exact ⟨k + 1, by go_num, by omega, hbel4, hst2⟩ | exact ⟨k + 1, by omega, by omega, hst2⟩ | ((repeat apply Exists.intro); exact ⟨⟨k + 1, by go_num, by omega, hbel4, hst2⟩, rfl⟩)
                  case measure => simp [intOf]; omega
            · obtain rfl : k = rs.length := by omega
              have hin2 := Lib.hid (le_step hgo hin.out hjn.out)
              clear hin hjn
              go_wp2
              go_roundw
              case rel => exact ⟨m - 1, by rw [show (m : Int) - 1 = ((m - 1 : Nat) : Int) by omega], by omega, hbel, hin2⟩
              case measure => simp [intOf]; omega
        · obtain rfl : m = 0 := by omega
          have hbest := Lib.hid (best_one hE.out hin.out)
          clear hin
          go_wp2_with fail
          refine (htl1.out 1 (by omega) (by omega) _).mono ?_
          rintro e w5 ⟨rfl, hb5⟩
          have hbel5 := bel_call hbel hb5
          go_wp2
          go_ret
          rw [hbest.out]
          exact ⟨rfl, hbel5⟩
end Go.Proofs.YtgfoaopfdpclhaaGreatDoor
