/-
  The plain law behind the reference's answer: the greatest end.
-/
import Derived.Test.YtbijphfendaddaaSufR3
namespace Go.Proofs.Ytbijphfendaddaa
open Go.RowKit
set_option linter.unusedVariables false

theorem tail_labN {n : List UInt8} {m : Nat} (h1 : 1 ≤ m) (h2 : m ≤ (Lab n).length) : Lab (tailL n m) = (Lab n).drop ((Lab n).length - m) ∧ (Lab (tailL n m)).length = m ∧ Suf (Lab (tailL n m)) (Lab n) := by
  have e := (tail_lab (n := n) (b := (m : Int)) (by omega) (by omega)).1
  have e2 : (Lab n).length - ((m : Int)).toNat = (Lab n).length - m := by omega
  rw [e2] at e
  have e3 : (Lab (tailL n m)).length = m := by rw [e, List.length_drop]; omega
  refine ⟨e, e3, ?_⟩
  unfold Suf
  rw [e3, e]
  exact ⟨h2, rfl⟩
theorem suf_tail {n t : List UInt8} (h : Suf (Lab t) (Lab n)) : t = tailL n (Lab t).length := by
  apply lab_inj
  rw [(tail_labN (lab_pos t) h.1).1]
  exact h.2.symm
theorem sign_any (r : Ru) : signI r = 42 ↔ r.an = true := by
  unfold signI
  cases r.an <;> cases r.nt <;> simp
theorem sign_not {x : List UInt8} : signI (ruleT x) = 33 ↔ (ruleT x).nt = true := by
  have := rule_ex x
  unfold signI
  cases ha : (ruleT x).an <;> cases hb : (ruleT x).nt <;> simp_all
theorem sign_no (r : Ru) : signI r = 0 ↔ r.an = false ∧ r.nt = false := by
  unfold signI
  cases r.an <;> cases r.nt <;> simp
/-- A not rule that is the name's end. -/
theorem not_iff {n x : List UInt8} {m : Nat} (hx : ruleOk x = true) (h1 : 1 ≤ m) (h2 : m ≤ (Lab n).length) : ((splitR x).1 = 33 ∧ (splitR x).2 = tailL n m) ↔ cE n (ruleT x) = m := by
  rw [split_rule hx, sign_not]
  obtain ⟨t1, t2, t3⟩ := tail_labN h1 h2
  constructor
  · rintro ⟨a, b⟩
    simp only at b
    have hs : Suf (Lab (ruleT x).nm) (Lab n) := by rw [b]; exact t3
    rw [cE_of a hs, b, t2]
  · intro h
    obtain ⟨a, b, c⟩ := cE_pos (n := n) (r := ruleT x) (by omega)
    refine ⟨a, ?_⟩
    have hm : m = (Lab (ruleT x).nm).length := by omega
    show (ruleT x).nm = _
    rw [hm]
    exact suf_tail b
/-- A rule, or an any rule, that is the name's end. -/
theorem yes_iff {n x : List UInt8} {m : Nat} (hx : ruleOk x = true) (h1 : 1 ≤ m) (h2 : m ≤ (Lab n).length) :
    (((splitR x).1 = 0 ∧ (splitR x).2 = tailL n m) ∨ ((splitR x).1 = 42 ∧ 2 ≤ m ∧ (splitR x).2 = tailL n ((m : Int) - 1))) ↔ cB n (ruleT x) = m := by
  rw [split_rule hx, sign_no, sign_any]
  simp only
  constructor
  · rintro (⟨⟨a1, a2⟩, b⟩ | ⟨a, h3, b⟩)
    · obtain ⟨t1, t2, t3⟩ := tail_labN h1 h2
      have hs : Suf (Lab (ruleT x).nm) (Lab n) := by rw [b]; exact t3
      rw [cB_no a1 a2 hs, b, t2]
    · obtain ⟨t1, t2, t3⟩ := tail_labN (n := n) (m := m - 1) (by omega) (by omega)
      rw [show (m : Int) - 1 = ((m - 1 : Nat) : Int) by omega] at b
      have hs : Suf (Lab (ruleT x).nm) (Lab n) := by rw [b]; exact t3
      rw [cB_an a hs (by rw [b, t2]; omega), b, t2]
      omega
  · intro h
    rcases cB_pos (n := n) (r := ruleT x) (by omega) with ⟨a, b, c, d⟩ | ⟨a1, a2, b, d⟩
    · have hp := lab_pos (ruleT x).nm
      refine .inr ⟨a, by omega, ?_⟩
      rw [show (m : Int) - 1 = ((Lab (ruleT x).nm).length : Int) by omega]
      exact suf_tail b
    · refine .inl ⟨⟨a1, a2⟩, ?_⟩
      rw [show (m : Int) = ((Lab (ruleT x).nm).length : Int) by omega]
      exact suf_tail b
theorem cE_le (n : List UInt8) (r : Ru) : cE n r ≤ (Lab n).length := by
  by_cases h : 0 < cE n r
  · obtain ⟨_, b, c⟩ := cE_pos h
    have := b.1
    omega
  · omega
theorem cB_le (n : List UInt8) (r : Ru) : cB n r ≤ (Lab n).length := by
  by_cases h : 0 < cB n r
  · rcases cB_pos h with ⟨_, b, c, d⟩ | ⟨_, _, b, d⟩
    · have := b.1; omega
    · have := b.1; omega
  · omega
theorem best_not {n : List UInt8} {rs : List (List UInt8)} {m : Nat} {x : List UInt8} (hx : x ∈ rs) (h1 : 1 ≤ m) (h : cE n (ruleT x) = m) (hm : ∀ y ∈ rs, cE n (ruleT y) ≤ m) : bestI n rs = (m : Int) - 1 := by
  obtain ⟨_, b1, b2, b3⟩ := foldR_spec n rs (1, 0) (by decide) (by decide)
  have hge := b2 x hx
  have hle : (foldR n rs (1, 0)).2 ≤ m := by
    rcases b3 with h3 | ⟨y, hy, h3⟩
    · rw [h3]; show (0 : Int) ≤ m; omega
    · rw [h3]; exact hm y hy
  have e : (foldR n rs (1, 0)).2 = m := by omega
  unfold bestI
  rw [e, if_pos (by omega)]
theorem best_none {n : List UInt8} {rs : List (List UInt8)} (hm : ∀ y ∈ rs, cE n (ruleT y) ≤ 0) : bestI n rs = (foldR n rs (1, 0)).1 := by
  obtain ⟨_, b1, b2, b3⟩ := foldR_spec n rs (1, 0) (by decide) (by decide)
  have hle : (foldR n rs (1, 0)).2 ≤ 0 := by
    rcases b3 with h3 | ⟨y, hy, h3⟩
    · rw [h3]; exact Int.le_refl _
    · rw [h3]; exact hm y hy
  unfold bestI
  rw [if_neg (by omega)]
theorem best_yes {n : List UInt8} {rs : List (List UInt8)} {m : Nat} {x : List UInt8} (h0 : ∀ y ∈ rs, cE n (ruleT y) ≤ 0) (hx : x ∈ rs) (h1 : 1 ≤ m) (h : cB n (ruleT x) = m) (hm : ∀ y ∈ rs, cB n (ruleT y) ≤ m) : bestI n rs = m := by
  rw [best_none h0]
  obtain ⟨⟨b1, b2, b3⟩, _⟩ := foldR_spec n rs (1, 0) (by decide) (by decide)
  have hge := b2 x hx
  rcases b3 with h3 | ⟨y, hy, h3⟩
  · rw [h3] at hge ⊢; simp only at hge ⊢; omega
  · have := hm y hy; omega
theorem best_one {n : List UInt8} {rs : List (List UInt8)} (h0 : ∀ y ∈ rs, cE n (ruleT y) ≤ 0) (hm : ∀ y ∈ rs, cB n (ruleT y) ≤ 0) : bestI n rs = 1 := by
  rw [best_none h0]
  obtain ⟨⟨b1, b2, b3⟩, _⟩ := foldR_spec n rs (1, 0) (by decide) (by decide)
  rcases b3 with h3 | ⟨y, hy, h3⟩
  · rw [h3]
  · have := hm y hy
    have b1' : (1 : Int) ≤ (foldR n rs (1, 0)).1 := b1
    omega
theorem le_step {rs : List (List UInt8)} {f : List UInt8 → Int} {m : Nat} (h1 : 1 ≤ m) (h : ∀ y ∈ rs, f y ≤ m) (hn : ∀ y ∈ rs.take rs.length, f y ≠ m) : ∀ y ∈ rs, f y ≤ ((m - 1 : Nat) : Int) := by
  intro y hy
  have a := h y hy
  have b := hn y (by rw [List.take_length]; exact hy)
  omega
theorem ne_step {rs : List (List UInt8)} {f : List UInt8 → Int} {m : Int} {k : Nat} (hk : k < rs.length) (h : ∀ y ∈ rs.take k, f y ≠ m) (hn : f rs[k] ≠ m) : ∀ y ∈ rs.take (k + 1), f y ≠ m := by
  intro y hy
  rw [List.take_succ_eq_append_getElem hk, List.mem_append, List.mem_singleton] at hy
  rcases hy with hy | rfl
  · exact h y hy
  · exact hn
end Go.Proofs.Ytbijphfendaddaa
