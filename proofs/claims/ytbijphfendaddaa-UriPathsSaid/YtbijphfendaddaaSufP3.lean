/-
  Public suffixes: what is theirs with one label more.
-/
import Derived.Test.YtbijphfendaddaaSufP2
namespace Go.Proofs.Ytbijphfendaddaa
set_option linter.unusedVariables false

theorem cE_pos {n : List UInt8} {r : Ru} (h : 0 < cE n r) : r.nt = true ∧ Suf (Lab r.nm) (Lab n) ∧ cE n r = (Lab r.nm).length := by
  unfold cE at h ⊢
  by_cases c1 : (r.an && Lib.hasSuffix n (46 :: r.nm)) = true
  · rw [if_pos c1] at h; omega
  · rw [if_neg c1] at h ⊢
    by_cases c2 : (r.nt && endsB n r.nm) = true
    · rw [if_pos c2, many_lab] at *
      rw [Bool.and_eq_true] at c2
      exact ⟨c2.1, ends_lab.1 c2.2, rfl⟩
    · rw [if_neg c2] at h; omega
theorem cE_of {n : List UInt8} {x : List UInt8} (h1 : (ruleT x).nt = true) (h2 : Suf (Lab (ruleT x).nm) (Lab n)) : cE n (ruleT x) = (Lab (ruleT x).nm).length := by
  have ha : (ruleT x).an = false := by
    cases hh : (ruleT x).an
    · rfl
    · rw [rule_ex x hh] at h1; cases h1
  unfold cE
  rw [ha, h1, if_neg (by simp), if_pos (by rw [ends_lab.2 h2]; rfl), many_lab]
theorem cB_pos {n : List UInt8} {r : Ru} (h : 0 < cB n r) : (r.an = true ∧ Suf (Lab r.nm) (Lab n) ∧ (Lab r.nm).length < (Lab n).length ∧ cB n r = (Lab r.nm).length + 1) ∨ (r.an = false ∧ r.nt = false ∧ Suf (Lab r.nm) (Lab n) ∧ cB n r = (Lab r.nm).length) := by
  unfold cB at h ⊢
  by_cases c1 : (r.an && Lib.hasSuffix n (46 :: r.nm)) = true
  · rw [if_pos c1, many_lab] at *
    rw [Bool.and_eq_true] at c1
    obtain ⟨q1, q2⟩ := has_lab.1 c1.2
    exact .inl ⟨c1.1, q1, q2, rfl⟩
  · rw [if_neg c1] at h ⊢
    by_cases c2 : (r.nt && endsB n r.nm) = true
    · rw [if_pos c2] at h; omega
    · rw [if_neg c2] at h ⊢
      by_cases c3 : (!r.an && !r.nt && endsB n r.nm) = true
      · rw [if_pos c3, many_lab] at *
        rw [Bool.and_eq_true, Bool.and_eq_true] at c3
        exact .inr ⟨by simpa using c3.1.1, by simpa using c3.1.2, ends_lab.1 c3.2, rfl⟩
      · rw [if_neg c3] at h; omega
theorem cB_an {n : List UInt8} {r : Ru} (h1 : r.an = true) (h2 : Suf (Lab r.nm) (Lab n)) (h3 : (Lab r.nm).length < (Lab n).length) : cB n r = (Lab r.nm).length + 1 := by
  unfold cB
  rw [h1, has_lab.2 ⟨h2, h3⟩, if_pos (by decide), many_lab]
theorem cB_no {n : List UInt8} {r : Ru} (h1 : r.an = false) (h2 : r.nt = false) (h3 : Suf (Lab r.nm) (Lab n)) : cB n r = (Lab r.nm).length := by
  unfold cB
  rw [h1, h2, ends_lab.2 h3, if_neg (by simp), if_neg (by simp), if_pos (by decide), many_lab]
theorem lab_pos (l : List UInt8) : 0 < (Lab l).length := List.length_pos_iff.2 (lab_ne l)
theorem best_bd {n : List UInt8} {rs : List (List UInt8)} (hall : rs.all ruleOk = true) : 1 ≤ bestI n rs ∧ bestI n rs ≤ (Lab n).length := by
  rw [List.all_eq_true] at hall
  obtain ⟨⟨a1, a2, a3⟩, b1, b2, b3⟩ := foldR_spec n rs (1, 0) (by decide) (by decide)
  have hN := lab_pos n
  unfold bestI
  generalize foldR n rs (1, 0) = v at *
  simp only at a1 a3 b1 b3
  by_cases he : 0 < v.2
  · rw [if_pos he]
    rcases b3 with b3 | ⟨r, hr, b3⟩
    · omega
    · obtain ⟨q1, ⟨q2, _⟩, q3⟩ := cE_pos (n := n) (r := ruleT r) (by omega)
      have := rule_two (hall r hr) q1
      omega
  · rw [if_neg he]
    rcases a3 with a3 | ⟨r, hr, a3⟩
    · omega
    · rcases cB_pos (n := n) (r := ruleT r) (by omega) with ⟨_, _, q3, q4⟩ | ⟨_, _, ⟨q3, _⟩, q4⟩ <;> omega
/-- With one label more the public suffix is as long. -/
theorem best_own {n : List UInt8} {rs : List (List UInt8)} (hall : rs.all ruleOk = true) (hb : bestI n rs < (Lab n).length) : bestI (tailL n (bestI n rs + 1)) rs = bestI n rs := by
  obtain ⟨hb1, hb2⟩ := best_bd (n := n) hall
  have hto := (tail_lab (n := n) (b := bestI n rs + 1) (by omega) (by omega)).1
  generalize ho : tailL n (bestI n rs + 1) = o at *
  have hj : (Lab n).length - (bestI n rs + 1).toNat ≤ (Lab n).length := by omega
  have hLo : (Lab o).length = (bestI n rs + 1).toNat := by rw [hto, List.length_drop]; omega
  have hs : ∀ M : List (List UInt8), Suf M (Lab o) ↔ Suf M (Lab n) ∧ M.length ≤ (bestI n rs + 1).toNat := fun M => by
    rw [hto, suf_drop hj, show (Lab n).length - ((Lab n).length - (bestI n rs + 1).toNat) = (bestI n rs + 1).toNat by omega]
  rw [List.all_eq_true] at hall
  obtain ⟨⟨a1, a2, a3⟩, b1, b2, b3⟩ := foldR_spec n rs (1, 0) (by decide) (by decide)
  obtain ⟨⟨c1, c2, c3⟩, d1, d2, d3⟩ := foldR_spec o rs (1, 0) (by decide) (by decide)
  have hbn : bestI n rs = if 0 < (foldR n rs (1, 0)).2 then (foldR n rs (1, 0)).2 - 1 else (foldR n rs (1, 0)).1 := rfl
  have hbo : bestI o rs = if 0 < (foldR o rs (1, 0)).2 then (foldR o rs (1, 0)).2 - 1 else (foldR o rs (1, 0)).1 := rfl
  generalize foldR n rs (1, 0) = v at *
  generalize foldR o rs (1, 0) = u at *
  generalize bestI n rs = b at *
  generalize bestI o rs = b' at *
  simp only at a1 a3 b1 b3 c1 c3 d1 d3
  by_cases he : 0 < v.2
  · rw [if_pos he] at hbn
    have hu : u.2 = v.2 := by
      apply Int.le_antisymm
      · rcases d3 with d3 | ⟨r, hr, d3⟩
        · omega
        · by_cases hp : 0 < cE o (ruleT r)
          · obtain ⟨q1, q2, q3⟩ := cE_pos hp
            have := b2 r hr
            rw [cE_of q1 ((hs _).1 q2).1] at this
            omega
          · omega
      · rcases b3 with b3 | ⟨r, hr, b3⟩
        · omega
        · obtain ⟨q1, q2, q3⟩ := cE_pos (n := n) (r := ruleT r) (by omega)
          have := d2 r hr
          rw [cE_of q1 ((hs _).2 ⟨q2, by omega⟩)] at this
          omega
    rw [hbo, hu, if_pos he, hbn]
  · rw [if_neg he] at hbn
    have hu : ¬ 0 < u.2 := by
      intro hu
      rcases d3 with d3 | ⟨r, hr, d3⟩
      · omega
      · obtain ⟨q1, q2, q3⟩ := cE_pos (n := o) (r := ruleT r) (by omega)
        have := b2 r hr
        rw [cE_of q1 ((hs _).1 q2).1] at this
        omega
    rw [hbo, if_neg hu, hbn]
    apply Int.le_antisymm
    · rcases c3 with c3 | ⟨r, hr, c3⟩
      · omega
      · by_cases hp : 0 < cB o (ruleT r)
        · have := a2 r hr
          rcases cB_pos hp with ⟨q1, q2, q3, q4⟩ | ⟨q1, q2, q3, q4⟩
          · have g := (hs _).1 q2
            rw [cB_an q1 g.1 (by omega)] at this
            omega
          · have g := (hs _).1 q3
            rw [cB_no q1 q2 g.1] at this
            omega
        · omega
    · rcases a3 with a3 | ⟨r, hr, a3⟩
      · omega
      · have := c2 r hr
        rcases cB_pos (n := n) (r := ruleT r) (by omega) with ⟨q1, q2, q3, q4⟩ | ⟨q1, q2, q3, q4⟩
        · rw [cB_an q1 ((hs _).2 ⟨q2, by omega⟩) (by omega)] at this
          omega
        · rw [cB_no q1 q2 ((hs _).2 ⟨q3, by omega⟩)] at this
          omega
/-- A tail of a name is a name, or an address. -/
theorem tail_canon {n : List UInt8} {b : Int} (hn : nameB n = true) (h1 : 1 ≤ b) (h2 : b ≤ (Lab n).length) : canonB (tailL n b) = true ∧ matchB n (tailL n b) = true := by
  obtain ⟨t1, t2⟩ := tail_lab h1 h2
  have hcn : canonB n = true := by unfold canonB; rw [hn]; rfl
  have hcases : tailL n b = n ∨ (∃ a, n = a ++ 46 :: tailL n b) := by
    by_cases hlt : b < (Lab n).length
    · exact .inr (t2 hlt)
    · left
      apply lab_inj
      rw [t1, show (Lab n).length - b.toNat = 0 by omega]; rfl
  have hnn := hn
  unfold nameB at hnn
  simp only [Bool.and_eq_true, decide_eq_true_eq, Bool.not_eq_true', List.all_eq_true] at hnn
  obtain ⟨⟨l1, l2⟩, l3⟩ := hnn
  have hlen : (tailL n b).length ≤ 256 := by
    rcases hcases with h | ⟨a, h⟩
    · rw [h]; exact l1
    · have := congrArg List.length h
      simp at this
      omega
  have hlab : ∀ x ∈ splitL (tailL n b) 46, labelB x = true := fun x hx => l3 x (by
    have hx' : x ∈ Lab (tailL n b) := hx
    rw [t1] at hx'
    exact List.mem_of_mem_drop hx')
  have hct : canonB (tailL n b) = true := by
    unfold canonB
    cases ha : addrB (tailL n b)
    · have : nameB (tailL n b) = true := by
        unfold nameB
        rw [decide_eq_true hlen, ha]
        simp only [Bool.true_and, Bool.not_false, List.all_eq_true]
        exact hlab
      rw [this]; rfl
    · rw [decide_eq_true hlen]; simp
  refine ⟨hct, ?_⟩
  unfold matchB
  rw [hcn, hct]
  rcases hcases with h | ⟨a, h⟩
  · rw [h]; simp
  · have hs : Lib.hasSuffix n (46 :: tailL n b) = true := by
      unfold Lib.hasSuffix
      rw [List.isSuffixOf_iff_suffix]
      exact ⟨a, h.symm⟩
    rw [hs, l2]
    simp
end Go.Proofs.Ytbijphfendaddaa
