/-
  Joined texts: Suf10.
-/
import Derived.Test.YtgfoaopfdpclhaaGreatDoorBu23
namespace Go.Proofs.YtgfoaopfdpclhaaGreatDoor
open Go.RowKit Go.Deep Go.WideShapes
set_option linter.unusedVariables false
set_option maxRecDepth 100000

theorem ofT_bad {rs : List (List UInt8)} {n : List UInt8} {e : Int} (he : e ≠ 0) (h : ofT rs n = ([], e)) : ownT rs n = ([], false) ∧ publicB rs n = false := by
  unfold ownT publicB
  rw [h, if_pos (.inl he)]
  exact ⟨rfl, by simp [he]⟩
theorem ofT_good {rs : List (List UInt8)} {n : List UInt8} (hall : rs.all ruleOk = true) (hl : rs.length ≤ 256) (hn : nameB n = true) : checkI rs = 0 ∧ ofT rs n = (tailL n (bestI n rs), 0) := by
  have e : checkI rs = 0 := by unfold checkI; rw [if_neg (by omega), if_pos hall]
  refine ⟨e, ?_⟩
  unfold ofT
  rw [if_neg (by simp [e]), hn]
  rfl
theorem own_parts {n : List UInt8} {b : Int} (hn : nameB n = true) (h1 : 1 ≤ b) (h2 : b < (Lab n).length) :
    ∃ x, x ≠ [] ∧ (46 : UInt8) ∉ x ∧ tailL n ((manyN (tailL n b) : Int) + 1) = x ++ 46 :: tailL n b := by
  obtain ⟨m, rfl⟩ : ∃ m : Nat, b = m := ⟨b.toNat, by omega⟩
  have e : manyN (tailL n m) = m := by rw [many_lab]; exact (tail_labN (by omega) (by omega)).2.1
  rw [e, tail_more (by omega) (by omega)]
  refine ⟨_, name_labels hn _ (List.getElem_mem _), ?_, rfl⟩
  have := lab_nodot (List.getElem_mem (l := Lab n) (n := (Lab n).length - 1 - m) (by omega))
  have h3 := congrArg List.length this
  rw [← many_lab] at h3
  unfold manyN at h3
  simp only [List.length_singleton] at h3
  exact List.count_eq_zero.1 (by omega)

end Go.Proofs.YtgfoaopfdpclhaaGreatDoor
