/-
  Public suffixes: plain laws.
-/
import Derived.Test.YtbijphfendaddaaSuf1
namespace Go.Proofs.Ytbijphfendaddaa
set_option linter.unusedVariables false

def manyN (l : List UInt8) : Nat := 1 + l.count 46
def dropK : Nat → List UInt8 → List UInt8
  | 0, l => l
  | k + 1, l => dropK k (cutD l).2.1
def tailL (l : List UInt8) (n : Int) : List UInt8 := dropK ((manyN l : Int) - n).toNat l
/-- A rule: its name, and whether it is an any, or a not rule. -/
structure Ru where
  nm : List UInt8
  an : Bool
  nt : Bool
def ruleT (l : List UInt8) : Ru := if Lib.hasPrefix l [42, 46] then ⟨l.drop 2, true, false⟩ else if Lib.hasPrefix l [33] then ⟨l.drop 1, false, true⟩ else ⟨l, false, false⟩
def ruleOk (l : List UInt8) : Bool := nameB (ruleT l).nm && (!(ruleT l).nt || decide (1 < (splitL (ruleT l).nm 46).length))
def checkI (rs : List (List UInt8)) : Int := if 256 < rs.length then 3 else if rs.all ruleOk then 0 else 1
def endsB (n t : List UInt8) : Bool := n == t || Lib.hasSuffix n (46 :: t)
def keepT (n : List UInt8) (r : Ru) (p : Int × Int) : Int × Int :=
  if r.an && Lib.hasSuffix n (46 :: r.nm) then (max p.1 (manyN r.nm + 1), p.2)
  else if r.nt && endsB n r.nm then (p.1, max p.2 (manyN r.nm))
  else if !r.an && !r.nt && endsB n r.nm then (max p.1 (manyN r.nm), p.2)
  else p
def foldR (n : List UInt8) (rs : List (List UInt8)) (p : Int × Int) : Int × Int := rs.foldl (fun p r => keepT n (ruleT r) p) p
def bestI (n : List UInt8) (rs : List (List UInt8)) : Int := if 0 < (foldR n rs (1, 0)).2 then (foldR n rs (1, 0)).2 - 1 else (foldR n rs (1, 0)).1
def ofT (rs : List (List UInt8)) (n : List UInt8) : List UInt8 × Int :=
  if checkI rs ≠ 0 then ([], checkI rs) else if nameB n then (tailL n (bestI n rs), 0) else ([], 1)

def cB (n : List UInt8) (r : Ru) : Int := if r.an && Lib.hasSuffix n (46 :: r.nm) then manyN r.nm + 1 else if r.nt && endsB n r.nm then 0 else if !r.an && !r.nt && endsB n r.nm then manyN r.nm else 0
def cE (n : List UInt8) (r : Ru) : Int := if r.an && Lib.hasSuffix n (46 :: r.nm) then 0 else if r.nt && endsB n r.nm then manyN r.nm else 0
theorem keep_max (n : List UInt8) (r : Ru) (p : Int × Int) (h1 : 0 ≤ p.1) (h2 : 0 ≤ p.2) : keepT n r p = (max p.1 (cB n r), max p.2 (cE n r)) ∧ 0 ≤ (keepT n r p).1 ∧ 0 ≤ (keepT n r p).2 := by
  have e : keepT n r p = (max p.1 (cB n r), max p.2 (cE n r)) := by
    unfold keepT cB cE
    split
    · exact Prod.ext rfl (by simp; omega)
    · split
      · exact Prod.ext (by simp; omega) rfl
      · split
        · exact Prod.ext rfl (by simp; omega)
        · exact Prod.ext (by simp; omega) (by simp; omega)
  rw [e]
  exact ⟨rfl, by simp; omega, by simp; omega⟩
theorem foldR_spec (n : List UInt8) (rs : List (List UInt8)) (p : Int × Int) (h1 : 0 ≤ p.1) (h2 : 0 ≤ p.2) :
    (p.1 ≤ (foldR n rs p).1 ∧ (∀ r ∈ rs, cB n (ruleT r) ≤ (foldR n rs p).1) ∧ ((foldR n rs p).1 = p.1 ∨ ∃ r ∈ rs, (foldR n rs p).1 = cB n (ruleT r))) ∧
    (p.2 ≤ (foldR n rs p).2 ∧ (∀ r ∈ rs, cE n (ruleT r) ≤ (foldR n rs p).2) ∧ ((foldR n rs p).2 = p.2 ∨ ∃ r ∈ rs, (foldR n rs p).2 = cE n (ruleT r))) := by
  induction rs generalizing p with
  | nil => exact ⟨⟨Int.le_refl _, fun r hr => (by cases hr), .inl rfl⟩, Int.le_refl _, fun r hr => (by cases hr), .inl rfl⟩
  | cons a rs ih =>
    obtain ⟨e, g1, g2⟩ := keep_max n (ruleT a) p h1 h2
    have e' : foldR n (a :: rs) p = foldR n rs (keepT n (ruleT a) p) := rfl
    rw [e']
    obtain ⟨⟨a1, a2, a3⟩, b1, b2, b3⟩ := ih (keepT n (ruleT a) p) g1 g2
    generalize foldR n rs (keepT n (ruleT a) p) = v at *
    rw [e] at a1 a3 b1 b3
    simp only at a1 a3 b1 b3
    refine ⟨⟨Int.le_trans (Int.le_max_left _ _) a1, fun r hr => ?_, ?_⟩, Int.le_trans (Int.le_max_left _ _) b1, fun r hr => ?_, ?_⟩
    · rcases List.mem_cons.1 hr with rfl | hr
      · exact Int.le_trans (Int.le_max_right _ _) a1
      · exact a2 r hr
    · rcases a3 with a3 | ⟨r, hr, a3⟩
      · by_cases hm : p.1 ≤ cB n (ruleT a)
        · exact .inr ⟨a, by simp, a3.trans (Int.max_eq_right hm)⟩
        · exact .inl (a3.trans (Int.max_eq_left (Int.le_of_lt (Int.not_le.1 hm))))
      · exact .inr ⟨r, by simp [hr], a3⟩
    · rcases List.mem_cons.1 hr with rfl | hr
      · exact Int.le_trans (Int.le_max_right _ _) b1
      · exact b2 r hr
    · rcases b3 with b3 | ⟨r, hr, b3⟩
      · by_cases hm : p.2 ≤ cE n (ruleT a)
        · exact .inr ⟨a, by simp, b3.trans (Int.max_eq_right hm)⟩
        · exact .inl (b3.trans (Int.max_eq_left (Int.le_of_lt (Int.not_le.1 hm))))
      · exact .inr ⟨r, by simp [hr], b3⟩
theorem foldR_same (n : List UInt8) (l m : List (List UInt8)) (h : ∀ x, x ∈ l ↔ x ∈ m) : foldR n l (1, 0) = foldR n m (1, 0) := by
  obtain ⟨⟨a1, a2, a3⟩, b1, b2, b3⟩ := foldR_spec n l (1, 0) (by decide) (by decide)
  obtain ⟨⟨c1, c2, c3⟩, d1, d2, d3⟩ := foldR_spec n m (1, 0) (by decide) (by decide)
  refine Prod.ext ?_ ?_
  · have u1 : (foldR n l (1, 0)).1 ≤ (foldR n m (1, 0)).1 := by
      rcases a3 with a3 | ⟨r, hr, a3⟩
      · rw [a3]; exact c1
      · rw [a3]; exact c2 r ((h r).1 hr)
    have u2 : (foldR n m (1, 0)).1 ≤ (foldR n l (1, 0)).1 := by
      rcases c3 with c3 | ⟨r, hr, c3⟩
      · rw [c3]; exact a1
      · rw [c3]; exact a2 r ((h r).2 hr)
    exact Int.le_antisymm u1 u2
  · have u1 : (foldR n l (1, 0)).2 ≤ (foldR n m (1, 0)).2 := by
      rcases b3 with b3 | ⟨r, hr, b3⟩
      · rw [b3]; exact d1
      · rw [b3]; exact d2 r ((h r).1 hr)
    have u2 : (foldR n m (1, 0)).2 ≤ (foldR n l (1, 0)).2 := by
      rcases d3 with d3 | ⟨r, hr, d3⟩
      · rw [d3]; exact b1
      · rw [d3]; exact b2 r ((h r).2 hr)
    exact Int.le_antisymm u1 u2
theorem ofT_same (n : List UInt8) (l m : List (List UInt8)) (h : ∀ x, x ∈ l ↔ x ∈ m) (h1 : l.length ≤ 256) (h2 : m.length ≤ 256) : ofT l n = ofT m n := by
  have ha : l.all ruleOk = m.all ruleOk := by
    rw [Bool.eq_iff_iff, List.all_eq_true, List.all_eq_true]
    exact ⟨fun g x hx => g x ((h x).2 hx), fun g x hx => g x ((h x).1 hx)⟩
  have hc : checkI l = checkI m := by
    unfold checkI
    rw [if_neg (show ¬ 256 < l.length by omega), if_neg (show ¬ 256 < m.length by omega), ha]
  unfold ofT bestI
  rw [hc, foldR_same n l m h]
end Go.Proofs.Ytbijphfendaddaa
