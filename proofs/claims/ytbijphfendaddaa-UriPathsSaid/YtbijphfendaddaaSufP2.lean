/-
  Public suffixes by labels: plain laws.
-/
import Derived.Test.YtbijphfendaddaaSufP
namespace Go.Proofs.Ytbijphfendaddaa
set_option linter.unusedVariables false

def Lab (l : List UInt8) : List (List UInt8) := splitL l 46
theorem lab_ne (l : List UInt8) : Lab l ≠ [] := split_ne l 46
theorem lab_cut_none {l : List UInt8} (h : cutL l 46 = none) : Lab l = [l] := by unfold Lab; rw [split_cut, h]
theorem lab_cut_some {l : List UInt8} {p : List UInt8 × List UInt8} (h : cutL l 46 = some p) : Lab l = p.1 :: Lab p.2 := by unfold Lab; rw [split_cut, h]
theorem many_lab (l : List UInt8) : manyN l = (Lab l).length := by
  unfold manyN
  generalize hn : l.length = n
  induction n using Nat.strongRecOn generalizing l with
  | _ n ih =>
    rcases hc : cutL l 46 with _ | p
    · rw [lab_cut_none hc, List.count_eq_zero.2 (cut_none_iff.1 hc)]; rfl
    · obtain ⟨h1, h2, h3, h4, h5⟩ := cut_some hc
      have hl : p.2.length < n := by rw [← hn, h4]; simp; omega
      have := ih p.2.length hl p.2 rfl
      rw [lab_cut_some hc, List.length_cons, ← this]
      conv => lhs; rw [h4]
      rw [List.count_append, List.count_cons, List.count_eq_zero.2 h5]
      simp
      omega
theorem lab_inj {a b : List UInt8} (h : Lab a = Lab b) : a = b := by
  generalize hn : a.length = n
  induction n using Nat.strongRecOn generalizing a b with
  | _ n ih =>
    rcases ha : cutL a 46 with _ | p
    · rcases hb : cutL b 46 with _ | q
      · rw [lab_cut_none ha, lab_cut_none hb] at h; simpa using h
      · rw [lab_cut_none ha, lab_cut_some hb] at h
        injection h with _ h
        exact absurd h.symm (lab_ne _)
    · rcases hb : cutL b 46 with _ | q
      · rw [lab_cut_some ha, lab_cut_none hb] at h
        injection h with _ h
        exact absurd h (lab_ne _)
      · rw [lab_cut_some ha, lab_cut_some hb] at h
        injection h with h1 h2
        obtain ⟨_, _, _, ea, _⟩ := cut_some ha
        obtain ⟨_, _, _, eb, _⟩ := cut_some hb
        have hl : p.2.length < n := by rw [← hn, ea]; simp; omega
        rw [ea, eb, h1, ih p.2.length hl h2 rfl]
theorem dropK_lab (k : Nat) (l : List UInt8) (h : k < (Lab l).length) : Lab (dropK k l) = (Lab l).drop k ∧ (0 < k → ∃ a, l = a ++ 46 :: dropK k l) := by
  induction k generalizing l with
  | zero => exact ⟨rfl, fun h => absurd h (by omega)⟩
  | succ k ih =>
    rcases hc : cutL l 46 with _ | p
    · rw [lab_cut_none hc] at h; simp at h
    · have hd : (cutD l).2.1 = p.2 := by unfold cutD; rw [hc]
      obtain ⟨_, _, _, e, _⟩ := cut_some hc
      have hl := lab_cut_some hc
      rw [hl, List.length_cons] at h
      obtain ⟨i1, i2⟩ := ih p.2 (by omega)
      have e1 : dropK (k + 1) l = dropK k p.2 := by show dropK k (cutD l).2.1 = _; rw [hd]
      rw [e1, hl]
      refine ⟨i1, fun _ => ?_⟩
      by_cases hk : 0 < k
      · obtain ⟨a, ha⟩ := i2 hk
        refine ⟨p.1 ++ 46 :: a, ?_⟩
        conv => lhs; rw [e, ha]
        simp
      · have : k = 0 := by omega
        subst this
        exact ⟨p.1, e⟩
/-- Labels that others end with. -/
def Suf (M L : List (List UInt8)) : Prop := M.length ≤ L.length ∧ L.drop (L.length - M.length) = M
theorem lab_app (a b : List UInt8) : Lab (a ++ 46 :: b) = Lab a ++ Lab b := by
  generalize hn : a.length = n
  induction n using Nat.strongRecOn generalizing a with
  | _ n ih =>
    rcases ha : cutL a 46 with _ | p
    · have hni := cut_none_iff.1 ha
      have : cutL (a ++ 46 :: b) 46 = some (a, b) := by
        have := cut_hit 46 (a ++ 46 :: b) a.length (fun j hj => by
          rw [List.getD_eq_getElem?_getD, List.getElem?_append_left hj, List.getElem?_eq_getElem hj]
          rw [beq_eq_false_iff_ne]
          intro e
          exact hni (by rw [← e]; exact List.getElem_mem hj)) (by rw [List.getD_eq_getElem?_getD, List.getElem?_append_right (Nat.le_refl _)]; simp) (by simp)
        rw [this]
        simp
      rw [lab_cut_some this, lab_cut_none ha]; rfl
    · obtain ⟨_, _, _, e, h5⟩ := cut_some ha
      have : cutL (a ++ 46 :: b) 46 = some (p.1, p.2 ++ 46 :: b) := by
        have h := cut_hit 46 (a ++ 46 :: b) p.1.length (fun j hj => by
          rw [e, List.append_assoc, List.getD_eq_getElem?_getD, List.getElem?_append_left hj, List.getElem?_eq_getElem hj]
          rw [beq_eq_false_iff_ne]
          intro e
          exact h5 (by rw [← e]; exact List.getElem_mem hj)) (by rw [e, List.append_assoc, List.getD_eq_getElem?_getD, List.getElem?_append_right (Nat.le_refl _)]; simp) (by rw [e]; simp)
        rw [h]
        congr 1
        rw [e]
        simp
      have hl : p.2.length < n := by rw [← hn, e]; simp; omega
      rw [lab_cut_some this, lab_cut_some ha, ih p.2.length hl p.2 rfl]; rfl
theorem has_lab {n t : List UInt8} : Lib.hasSuffix n (46 :: t) = true ↔ Suf (Lab t) (Lab n) ∧ (Lab t).length < (Lab n).length := by
  unfold Lib.hasSuffix
  rw [List.isSuffixOf_iff_suffix]
  constructor
  · rintro ⟨a, ha⟩
    have e : Lab n = Lab a ++ Lab t := by rw [← ha, lab_app]
    have hne := List.length_pos_iff.2 (lab_ne a)
    rw [e]
    refine ⟨⟨by simp, ?_⟩, by simp; omega⟩
    rw [List.length_append, Nat.add_sub_cancel, List.drop_left]
  · rintro ⟨⟨h1, h2⟩, h3⟩
    have hpos := List.length_pos_iff.2 (lab_ne t)
    obtain ⟨i1, i2⟩ := dropK_lab ((Lab n).length - (Lab t).length) n (by omega)
    rw [h2] at i1
    have := lab_inj i1
    obtain ⟨a, ha⟩ := i2 (by omega)
    rw [this] at ha
    exact ⟨a, ha.symm⟩
theorem ends_lab {n t : List UInt8} : endsB n t = true ↔ Suf (Lab t) (Lab n) := by
  unfold endsB
  rw [Bool.or_eq_true, beq_iff_eq, has_lab]
  constructor
  · rintro (rfl | h)
    · exact ⟨Nat.le_refl _, by rw [Nat.sub_self]; rfl⟩
    · exact h.1
  · intro h
    by_cases hl : (Lab t).length < (Lab n).length
    · exact .inr ⟨h, hl⟩
    · refine .inl (lab_inj ?_)
      have h2 := h.2
      rw [show (Lab n).length - (Lab t).length = 0 by omega] at h2
      exact h2
theorem tail_lab {n : List UInt8} {b : Int} (h1 : 1 ≤ b) (h2 : b ≤ (Lab n).length) : Lab (tailL n b) = (Lab n).drop ((Lab n).length - b.toNat) ∧ (b < (Lab n).length → ∃ a, n = a ++ 46 :: tailL n b) := by
  unfold tailL
  rw [many_lab]
  have e : (((Lab n).length : Int) - b).toNat = (Lab n).length - b.toNat := by omega
  rw [e]
  obtain ⟨i1, i2⟩ := dropK_lab ((Lab n).length - b.toNat) n (by omega)
  exact ⟨i1, fun h => i2 (by omega)⟩
theorem suf_drop {M L : List (List UInt8)} {j : Nat} (hj : j ≤ L.length) : Suf M (L.drop j) ↔ Suf M L ∧ M.length ≤ L.length - j := by
  unfold Suf
  rw [List.length_drop]
  constructor
  · rintro ⟨h1, h2⟩
    rw [List.drop_drop] at h2
    refine ⟨⟨by omega, ?_⟩, h1⟩
    rw [show j + (L.length - j - M.length) = L.length - M.length by omega] at h2
    exact h2
  · rintro ⟨⟨h1, h2⟩, h3⟩
    refine ⟨h3, ?_⟩
    rw [List.drop_drop, show j + (L.length - j - M.length) = L.length - M.length by omega]
    exact h2
theorem rule_ex (x : List UInt8) : (ruleT x).an = true → (ruleT x).nt = false := by
  unfold ruleT
  split
  · intro _; rfl
  · split <;> (intro h; cases h)
theorem rule_two {x : List UInt8} (h : ruleOk x = true) (hn : (ruleT x).nt = true) : 2 ≤ (Lab (ruleT x).nm).length := by
  unfold ruleOk at h
  rw [hn] at h
  simp at h
  exact h.2
end Go.Proofs.Ytbijphfendaddaa
