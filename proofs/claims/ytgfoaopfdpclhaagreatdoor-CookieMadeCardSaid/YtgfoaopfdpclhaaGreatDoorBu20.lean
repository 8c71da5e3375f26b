/-
  Joined texts: SufP2 SufP3 Suf8 Suf9.
-/
import Derived.Test.YtgfoaopfdpclhaaGreatDoorBu13
import Derived.Test.YtgfoaopfdpclhaaGreatDoorBu19
namespace Go.Proofs.YtgfoaopfdpclhaaGreatDoor
set_option linter.unusedVariables false
set_option maxRecDepth 100000

def Lab (l : List UInt8) : List (List UInt8) := splitL l 46
theorem lab_ne (l : List UInt8) : Lab l ≠ [] := split_ne l 46
theorem lab_cut_none {l : List UInt8} (h : cutL l 46 = none) : Lab l = [l] := by unfold Lab; rw [split_cut, h]
theorem lab_cut_some {l : List UInt8} {p : List UInt8 × List UInt8} (h : cutL l 46 = some p) : Lab l = p.1 :: Lab p.2 := by unfold Lab; rw [split_cut, h]
theorem many_lab (l : List UInt8) : manyN l = (Lab l).length := by
  unfold manyN
  generalize hn : l.length = n
  induction n using Nat.strongRecOn generalizing l with
  | _ n ih =>
    rcases hc : cutL l 46 with _ | p
    · rw [lab_cut_none hc, List.count_eq_zero.2 (cut_none_iff.1 hc)]; rfl
    · obtain ⟨h1, h2, h3, h4, h5⟩ := cut_some hc
      have hl : p.2.length < n := by rw [← hn, h4]; simp; omega
      have := ih p.2.length hl p.2 rfl
      rw [lab_cut_some hc, List.length_cons, ← this]
      conv => lhs; rw [h4]
      rw [List.count_append, List.count_cons, List.count_eq_zero.2 h5]
      simp
      omega
theorem lab_inj {a b : List UInt8} (h : Lab a = Lab b) : a = b := by
  generalize hn : a.length = n
  induction n using Nat.strongRecOn generalizing a b with
  | _ n ih =>
    rcases ha : cutL a 46 with _ | p
    · rcases hb : cutL b 46 with _ | q
      · rw [lab_cut_none ha, lab_cut_none hb] at h; simpa using h
      · rw [lab_cut_none ha, lab_cut_some hb] at h
        injection h with _ h
        exact absurd h.symm (lab_ne _)
    · rcases hb : cutL b 46 with _ | q
      · rw [lab_cut_some ha, lab_cut_none hb] at h
        injection h with _ h
        exact absurd h (lab_ne _)
      · rw [lab_cut_some ha, lab_cut_some hb] at h
        injection h with h1 h2
        obtain ⟨_, _, _, ea, _⟩ := cut_some ha
        obtain ⟨_, _, _, eb, _⟩ := cut_some hb
        have hl : p.2.length < n := by rw [← hn, ea]; simp; omega
        rw [ea, eb, h1, ih p.2.length hl h2 rfl]
theorem dropK_lab (k : Nat) (l : List UInt8) (h : k < (Lab l).length) : Lab (dropK k l) = (Lab l).drop k ∧ (0 < k → ∃ a, l = a ++ 46 :: dropK k l) := by
  induction k generalizing l with
  | zero => exact ⟨rfl, fun h => absurd h (by omega)⟩
  | succ k ih =>
    rcases hc : cutL l 46 with _ | p
    · rw [lab_cut_none hc] at h; simp at h
    · have hd : (cutD l).2.1 = p.2 := by unfold cutD; rw [hc]
      obtain ⟨_, _, _, e, _⟩ := cut_some hc
      have hl := lab_cut_some hc
      rw [hl, List.length_cons] at h
      obtain ⟨i1, i2⟩ := ih p.2 (by omega)
      have e1 : dropK (k + 1) l = dropK k p.2 := by show dropK k (cutD l).2.1 = _; rw [hd]
      rw [e1, hl]
      refine ⟨i1, fun _ => ?_⟩
      by_cases hk : 0 < k
      · obtain ⟨a, ha⟩ := i2 hk
        refine ⟨p.1 ++ 46 :: a, ?_⟩
        conv => lhs; rw [e, ha]
        simp
      · have : k = 0 := by omega
        subst this
        exact ⟨p.1, e⟩
/-- Labels that others end with. -/
def Suf (M L : List (List UInt8)) : Prop := M.length ≤ L.length ∧ L.drop (L.length - M.length) = M
theorem lab_app (a b : List UInt8) : Lab (a ++ 46 :: b) = Lab a ++ Lab b := by
  generalize hn : a.length = n
  induction n using Nat.strongRecOn generalizing a with
  | _ n ih =>
    rcases ha : cutL a 46 with _ | p
    · have hni := cut_none_iff.1 ha
      have : cutL (a ++ 46 :: b) 46 = some (a, b) := by
        have := cut_hit 46 (a ++ 46 :: b) a.length (fun j hj => by
          rw [List.getD_eq_getElem?_getD, List.getElem?_append_left hj, List.getElem?_eq_getElem hj]
          rw [beq_eq_false_iff_ne]
          intro e
          exact hni (by rw [← e]; exact List.getElem_mem hj)) (by rw [List.getD_eq_getElem?_getD, List.getElem?_append_right (Nat.le_refl _)]; simp) (by simp)
        rw [this]
        simp
      rw [lab_cut_some this, lab_cut_none ha]; rfl
    · obtain ⟨_, _, _, e, h5⟩ := cut_some ha
      have : cutL (a ++ 46 :: b) 46 = some (p.1, p.2 ++ 46 :: b) := by
        have h := cut_hit 46 (a ++ 46 :: b) p.1.length (fun j hj => by
          rw [e, List.append_assoc, List.getD_eq_getElem?_getD, List.getElem?_append_left hj, List.getElem?_eq_getElem hj]
          rw [beq_eq_false_iff_ne]
          intro e
          exact h5 (by rw [← e]; exact List.getElem_mem hj)) (by rw [e, List.append_assoc, List.getD_eq_getElem?_getD, List.getElem?_append_right (Nat.le_refl _)]; simp) (by rw [e]; simp)
        rw [h]
        congr 1
        rw [e]
        simp
      have hl : p.2.length < n := by rw [← hn, e]; simp; omega
      rw [lab_cut_some this, lab_cut_some ha, ih p.2.length hl p.2 rfl]; rfl
theorem has_lab {n t : List UInt8} : Lib.hasSuffix n (46 :: t) = true ↔ Suf (Lab t) (Lab n) ∧ (Lab t).length < (Lab n).length := by
  unfold Lib.hasSuffix
  rw [List.isSuffixOf_iff_suffix]
  constructor
  · rintro ⟨a, ha⟩
    have e : Lab n = Lab a ++ Lab t := by rw [← ha, lab_app]
    have hne := List.length_pos_iff.2 (lab_ne a)
    rw [e]
    refine ⟨⟨by simp, ?_⟩, by simp; omega⟩
    rw [List.length_append, Nat.add_sub_cancel, List.drop_left]
  · rintro ⟨⟨h1, h2⟩, h3⟩
    have hpos := List.length_pos_iff.2 (lab_ne t)
    obtain ⟨i1, i2⟩ := dropK_lab ((Lab n).length - (Lab t).length) n (by omega)
    rw [h2] at i1
    have := lab_inj i1
    obtain ⟨a, ha⟩ := i2 (by omega)
    rw [this] at ha
    exact ⟨a, ha.symm⟩
theorem ends_lab {n t : List UInt8} : endsB n t = true ↔ Suf (Lab t) (Lab n) := by
  unfold endsB
  rw [Bool.or_eq_true, beq_iff_eq, has_lab]
  constructor
  · rintro (rfl | h)
    · exact ⟨Nat.le_refl _, by rw [Nat.sub_self]; rfl⟩
    · exact h.1
  · intro h
    by_cases hl : (Lab t).length < (Lab n).length
    · exact .inr ⟨h, hl⟩
    · refine .inl (lab_inj ?_)
      have h2 := h.2
      rw [show (Lab n).length - (Lab t).length = 0 by omega] at h2
      exact h2
theorem tail_lab {n : List UInt8} {b : Int} (h1 : 1 ≤ b) (h2 : b ≤ (Lab n).length) : Lab (tailL n b) = (Lab n).drop ((Lab n).length - b.toNat) ∧ (b < (Lab n).length → ∃ a, n = a ++ 46 :: tailL n b) := by
  unfold tailL
  rw [many_lab]
  have e : (((Lab n).length : Int) - b).toNat = (Lab n).length - b.toNat := by omega
  rw [e]
  obtain ⟨i1, i2⟩ := dropK_lab ((Lab n).length - b.toNat) n (by omega)
  exact ⟨i1, fun h => i2 (by omega)⟩
theorem suf_drop {M L : List (List UInt8)} {j : Nat} (hj : j ≤ L.length) : Suf M (L.drop j) ↔ Suf M L ∧ M.length ≤ L.length - j := by
  unfold Suf
  rw [List.length_drop]
  constructor
  · rintro ⟨h1, h2⟩
    rw [List.drop_drop] at h2
    refine ⟨⟨by omega, ?_⟩, h1⟩
    rw [show j + (L.length - j - M.length) = L.length - M.length by omega] at h2
    exact h2
  · rintro ⟨⟨h1, h2⟩, h3⟩
    refine ⟨h3, ?_⟩
    rw [List.drop_drop, show j + (L.length - j - M.length) = L.length - M.length by omega]
    exact h2
theorem rule_ex (x : List UInt8) : (ruleT x).an = true → (ruleT x).nt = false := by
  unfold ruleT
  split
  · intro _; rfl
  · split <;> (intro h; cases h)
theorem rule_two {x : List UInt8} (h : ruleOk x = true) (hn : (ruleT x).nt = true) : 2 ≤ (Lab (ruleT x).nm).length := by
  unfold ruleOk at h
  rw [hn] at h
  simp at h
  exact h.2
end Go.Proofs.YtgfoaopfdpclhaaGreatDoor
namespace Go.Proofs.YtgfoaopfdpclhaaGreatDoor
set_option linter.unusedVariables false
set_option maxRecDepth 100000

theorem cE_pos {n : List UInt8} {r : Ru} (h : 0 < cE n r) : r.nt = true ∧ Suf (Lab r.nm) (Lab n) ∧ cE n r = (Lab r.nm).length := by
  unfold cE at h ⊢
  by_cases c1 : (r.an && Lib.hasSuffix n (46 :: r.nm)) = true
  · rw [if_pos c1] at h; omega
  · rw [if_neg c1] at h ⊢
    by_cases c2 : (r.nt && endsB n r.nm) = true
    · rw [if_pos c2, many_lab] at *
      rw [Bool.and_eq_true] at c2
      exact ⟨c2.1, ends_lab.1 c2.2, rfl⟩
    · rw [if_neg c2] at h; omega
theorem cE_of {n : List UInt8} {x : List UInt8} (h1 : (ruleT x).nt = true) (h2 : Suf (Lab (ruleT x).nm) (Lab n)) : cE n (ruleT x) = (Lab (ruleT x).nm).length := by
  have ha : (ruleT x).an = false := by
    cases hh : (ruleT x).an
    · rfl
    · rw [rule_ex x hh] at h1; cases h1
  unfold cE
  rw [ha, h1, if_neg (by simp), if_pos (by rw [ends_lab.2 h2]; rfl), many_lab]
theorem cB_pos {n : List UInt8} {r : Ru} (h : 0 < cB n r) : (r.an = true ∧ Suf (Lab r.nm) (Lab n) ∧ (Lab r.nm).length < (Lab n).length ∧ cB n r = (Lab r.nm).length + 1) ∨ (r.an = false ∧ r.nt = false ∧ Suf (Lab r.nm) (Lab n) ∧ cB n r = (Lab r.nm).length) := by
  unfold cB at h ⊢
  by_cases c1 : (r.an && Lib.hasSuffix n (46 :: r.nm)) = true
  · rw [if_pos c1, many_lab] at *
    rw [Bool.and_eq_true] at c1
    obtain ⟨q1, q2⟩ := has_lab.1 c1.2
    exact .inl ⟨c1.1, q1, q2, rfl⟩
  · rw [if_neg c1] at h ⊢
    by_cases c2 : (r.nt && endsB n r.nm) = true
    · rw [if_pos c2] at h; omega
    · rw [if_neg c2] at h ⊢
      by_cases c3 : (!r.an && !r.nt && endsB n r.nm) = true
      · rw [if_pos c3, many_lab] at *
        rw [Bool.and_eq_true, Bool.and_eq_true] at c3
        exact .inr ⟨by simpa using c3.1.1, by simpa using c3.1.2, ends_lab.1 c3.2, rfl⟩
      · rw [if_neg c3] at h; omega
theorem cB_an {n : List UInt8} {r : Ru} (h1 : r.an = true) (h2 : Suf (Lab r.nm) (Lab n)) (h3 : (Lab r.nm).length < (Lab n).length) : cB n r = (Lab r.nm).length + 1 := by
  unfold cB
  rw [h1, has_lab.2 ⟨h2, h3⟩, if_pos (by decide), many_lab]
theorem cB_no {n : List UInt8} {r : Ru} (h1 : r.an = false) (h2 : r.nt = false) (h3 : Suf (Lab r.nm) (Lab n)) : cB n r = (Lab r.nm).length := by
  unfold cB
  rw [h1, h2, ends_lab.2 h3, if_neg (by simp), if_neg (by simp), if_pos (by decide), many_lab]
theorem lab_pos (l : List UInt8) : 0 < (Lab l).length := List.length_pos_iff.2 (lab_ne l)
theorem best_bd {n : List UInt8} {rs : List (List UInt8)} (hall : rs.all ruleOk = true) : 1 ≤ bestI n rs ∧ bestI n rs ≤ (Lab n).length := by
  rw [List.all_eq_true] at hall
  obtain ⟨⟨a1, a2, a3⟩, b1, b2, b3⟩ := foldR_spec n rs (1, 0) (by decide) (by decide)
  have hN := lab_pos n
  unfold bestI
  generalize foldR n rs (1, 0) = v at *
  simp only at a1 a3 b1 b3
  by_cases he : 0 < v.2
  · rw [if_pos he]
    rcases b3 with b3 | ⟨r, hr, b3⟩
    · omega
    · obtain ⟨q1, ⟨q2, _⟩, q3⟩ := cE_pos (n := n) (r := ruleT r) (by omega)
      have := rule_two (hall r hr) q1
      omega
  · rw [if_neg he]
    rcases a3 with a3 | ⟨r, hr, a3⟩
    · omega
    · rcases cB_pos (n := n) (r := ruleT r) (by omega) with ⟨_, _, q3, q4⟩ | ⟨_, _, ⟨q3, _⟩, q4⟩ <;> omega
/-- With one label more the public suffix is as long. -/
theorem best_own {n : List UInt8} {rs : List (List UInt8)} (hall : rs.all ruleOk = true) (hb : bestI n rs < (Lab n).length) : bestI (tailL n (bestI n rs + 1)) rs = bestI n rs := by
  obtain ⟨hb1, hb2⟩ := best_bd (n := n) hall
  have hto := (tail_lab (n := n) (b := bestI n rs + 1) (by omega) (by omega)).1
  generalize ho : tailL n (bestI n rs + 1) = o at *
  have hj : (Lab n).length - (bestI n rs + 1).toNat ≤ (Lab n).length := by omega
  have hLo : (Lab o).length = (bestI n rs + 1).toNat := by rw [hto, List.length_drop]; omega
  have hs : ∀ M : List (List UInt8), Suf M (Lab o) ↔ Suf M (Lab n) ∧ M.length ≤ (bestI n rs + 1).toNat := fun M => by
    rw [hto, suf_drop hj, show (Lab n).length - ((Lab n).length - (bestI n rs + 1).toNat) = (bestI n rs + 1).toNat by omega]
  rw [List.all_eq_true] at hall
  obtain ⟨⟨a1, a2, a3⟩, b1, b2, b3⟩ := foldR_spec n rs (1, 0) (by decide) (by decide)
  obtain ⟨⟨c1, c2, c3⟩, d1, d2, d3⟩ := foldR_spec o rs (1, 0) (by decide) (by decide)
  have hbn : bestI n rs = if 0 < (foldR n rs (1, 0)).2 then (foldR n rs (1, 0)).2 - 1 else (foldR n rs (1, 0)).1 := rfl
  have hbo : bestI o rs = if 0 < (foldR o rs (1, 0)).2 then (foldR o rs (1, 0)).2 - 1 else (foldR o rs (1, 0)).1 := rfl
  generalize foldR n rs (1, 0) = v at *
  generalize foldR o rs (1, 0) = u at *
  generalize bestI n rs = b at *
  generalize bestI o rs = b' at *
  simp only at a1 a3 b1 b3 c1 c3 d1 d3
  by_cases he : 0 < v.2
  · rw [if_pos he] at hbn
    have hu : u.2 = v.2 := by
      apply Int.le_antisymm
      · rcases d3 with d3 | ⟨r, hr, d3⟩
        · omega
        · by_cases hp : 0 < cE o (ruleT r)
          · obtain ⟨q1, q2, q3⟩ := cE_pos hp
            have := b2 r hr
            rw [cE_of q1 ((hs _).1 q2).1] at this
            omega
          · omega
      · rcases b3 with b3 | ⟨r, hr, b3⟩
        · omega
        · obtain ⟨q1, q2, q3⟩ := cE_pos (n := n) (r := ruleT r) (by omega)
          have := d2 r hr
          rw [cE_of q1 ((hs _).2 ⟨q2, by omega⟩)] at this
          omega
    rw [hbo, hu, if_pos he, hbn]
  · rw [if_neg he] at hbn
    have hu : ¬ 0 < u.2 := by
      intro hu
      rcases d3 with d3 | ⟨r, hr, d3⟩
      · omega
      · obtain ⟨q1, q2, q3⟩ := cE_pos (n := o) (r := ruleT r) (by omega)
        have := b2 r hr
        rw [cE_of q1 ((hs _).1 q2).1] at this
        omega
    rw [hbo, if_neg hu, hbn]
    apply Int.le_antisymm
    · rcases c3 with c3 | ⟨r, hr, c3⟩
      · omega
      · by_cases hp : 0 < cB o (ruleT r)
        · have := a2 r hr
          rcases cB_pos hp with ⟨q1, q2, q3, q4⟩ | ⟨q1, q2, q3, q4⟩
          · have g := (hs _).1 q2
            rw [cB_an q1 g.1 (by omega)] at this
            omega
          · have g := (hs _).1 q3
            rw [cB_no q1 q2 g.1] at this
            omega
        · omega
    · rcases a3 with a3 | ⟨r, hr, a3⟩
      · omega
      · have := c2 r hr
        rcases cB_pos (n := n) (r := ruleT r) (by omega) with ⟨q1, q2, q3, q4⟩ | ⟨q1, q2, q3, q4⟩
        · rw [cB_an q1 ((hs _).2 ⟨q2, by omega⟩) (by omega)] at this
          omega
        · rw [cB_no q1 q2 ((hs _).2 ⟨q3, by omega⟩)] at this
          omega
/-- A tail of a name is a name, or an address. -/
theorem tail_canon {n : List UInt8} {b : Int} (hn : nameB n = true) (h1 : 1 ≤ b) (h2 : b ≤ (Lab n).length) : canonB (tailL n b) = true ∧ matchB n (tailL n b) = true := by
  obtain ⟨t1, t2⟩ := tail_lab h1 h2
  have hcn : canonB n = true := by unfold canonB; rw [hn]; rfl
  have hcases : tailL n b = n ∨ (∃ a, n = a ++ 46 :: tailL n b) := by
    by_cases hlt : b < (Lab n).length
    · exact .inr (t2 hlt)
    · left
      apply lab_inj
      rw [t1, show (Lab n).length - b.toNat = 0 by omega]; rfl
  have hnn := hn
  unfold nameB at hnn
  simp only [Bool.and_eq_true, decide_eq_true_eq, Bool.not_eq_true', List.all_eq_true] at hnn
  obtain ⟨⟨l1, l2⟩, l3⟩ := hnn
  have hlen : (tailL n b).length ≤ 256 := by
    rcases hcases with h | ⟨a, h⟩
    · rw [h]; exact l1
    · have := congrArg List.length h
      simp at this
      omega
  have hlab : ∀ x ∈ splitL (tailL n b) 46, labelB x = true := fun x hx => l3 x (by
    have hx' : x ∈ Lab (tailL n b) := hx
    rw [t1] at hx'
    exact List.mem_of_mem_drop hx')
  have hct : canonB (tailL n b) = true := by
    unfold canonB
    cases ha : addrB (tailL n b)
    · have : nameB (tailL n b) = true := by
        unfold nameB
        rw [decide_eq_true hlen, ha]
        simp only [Bool.true_and, Bool.not_false, List.all_eq_true]
        exact hlab
      rw [this]; rfl
    · rw [decide_eq_true hlen]; simp
  refine ⟨hct, ?_⟩
  unfold matchB
  rw [hcn, hct]
  rcases hcases with h | ⟨a, h⟩
  · rw [h]; simp
  · have hs : Lib.hasSuffix n (46 :: tailL n b) = true := by
      unfold Lib.hasSuffix
      rw [List.isSuffixOf_iff_suffix]
      exact ⟨a, h.symm⟩
    rw [hs, l2]
    simp
end Go.Proofs.YtgfoaopfdpclhaaGreatDoor
namespace Go.Proofs.YtgfoaopfdpclhaaGreatDoor
open Go.RowKit Go.Deep Go.WideShapes
set_option linter.unusedVariables false
set_option maxRecDepth 100000

theorem dropK_len (k : Nat) (l : List UInt8) : (dropK k l).length ≤ l.length := by
  induction k generalizing l with
  | zero => exact Nat.le_refl _
  | succ k ih =>
    have h1 := ih (cutD l).2.1
    have h2 := cutD_len l
    show (dropK k (cutD l).2.1).length ≤ _
    omega
theorem tail_len (l : List UInt8) (b : Int) : (tailL l b).length ≤ l.length := dropK_len _ _
theorem of_case {rs : List (List UInt8)} {n : List UInt8} (h : (ofT rs n).2 = 0) : checkI rs = 0 ∧ nameB n = true ∧ ofT rs n = (tailL n (bestI n rs), 0) := by
  unfold ofT at h ⊢
  by_cases hc : checkI rs ≠ 0
  · rw [if_pos hc] at h; exact absurd h hc
  · rw [if_neg hc] at h ⊢
    cases hn : nameB n
    · rw [hn, if_neg (by decide)] at h; cases h
    · exact ⟨by simpa using hc, rfl, if_pos rfl⟩
theorem check_all {rs : List (List UInt8)} (h : checkI rs = 0) : rs.all ruleOk = true := by
  unfold checkI at h
  split at h
  · cases h
  · split at h
    · assumption
    · cases h
/-- A name's own public suffix with one label more, and what is known of it. -/
def ownT (rs : List (List UInt8)) (n : List UInt8) : List UInt8 × Bool := if (ofT rs n).2 ≠ 0 ∨ (ofT rs n).1 = n then ([], false) else (tailL n (manyN (ofT rs n).1 + 1), true)
theorem own_case {rs : List (List UInt8)} {n : List UInt8} (h : (ofT rs n).2 = 0) : matchB n (ofT rs n).1 = true ∧ ((ofT rs n).1 = n ∨ ((ofT rs n).1 ≠ n ∧ matchB n (tailL n (manyN (ofT rs n).1 + 1)) = true ∧
    (ofT rs (tailL n (manyN (ofT rs n).1 + 1)) = ((ofT rs n).1, 0) ∨ ofT rs (tailL n (manyN (ofT rs n).1 + 1)) = ([], 1)))) := by
  obtain ⟨hc, hn, he⟩ := of_case h
  have hall := check_all hc
  obtain ⟨b1, b2⟩ := best_bd (n := n) hall
  rw [he]
  simp only
  refine ⟨(tail_canon hn b1 b2).2, ?_⟩
  by_cases hs : tailL n (bestI n rs) = n
  · exact .inl hs
  · right
    have hlt : bestI n rs < (Lab n).length := by
      have hne : bestI n rs ≠ (Lab n).length := fun e => hs (lab_inj (by
        rw [(tail_lab b1 b2).1, show (Lab n).length - (bestI n rs).toNat = 0 by omega]; rfl))
      omega
    have hm : (manyN (tailL n (bestI n rs)) : Int) = bestI n rs := by
      rw [many_lab, (tail_lab b1 b2).1, List.length_drop]
      omega
    rw [hm]
    refine ⟨hs, (tail_canon hn (by omega) (by omega)).2, ?_⟩
    unfold ofT
    rw [hc, if_neg (by simp)]
    cases ho : nameB (tailL n (bestI n rs + 1))
    · exact .inr (if_neg (by decide))
    · left
      rw [if_pos rfl, best_own hall hlt]
      have e1 := (tail_lab b1 b2).1
      have e2 := (tail_lab (n := n) (b := bestI n rs + 1) (by omega) (by omega)).1
      have e3 := (tail_lab (n := tailL n (bestI n rs + 1)) (b := bestI n rs) b1 (by rw [e2, List.length_drop]; omega)).1
      have : tailL (tailL n (bestI n rs + 1)) (bestI n rs) = tailL n (bestI n rs) := by
        apply lab_inj
        rw [e3, e2, e1, List.length_drop, List.drop_drop]
        congr 1
        omega
      rw [this]

end Go.Proofs.YtgfoaopfdpclhaaGreatDoor
namespace Go.Proofs.YtgfoaopfdpclhaaGreatDoor
open Go.RowKit Go.Deep Go.WideShapes
set_option linter.unusedVariables false
set_option maxRecDepth 100000

end Go.Proofs.YtgfoaopfdpclhaaGreatDoor
