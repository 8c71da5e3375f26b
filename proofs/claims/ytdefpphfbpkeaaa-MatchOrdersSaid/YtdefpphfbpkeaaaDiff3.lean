/-
  The change of a key.
-/
import Derived.Test.YtdefpphfbpkeaaaDiff2
import Derived.BigRegion
namespace Go.Proofs.Ytdefpphfbpkeaaa
open Go.RowKit
set_option linter.unusedVariables false

def chgW (w : World) (k : Ky) (x y : It) : World := (((((w.alloc (Obj.cells (cK k).toArray 47)).alloc (Obj.cells (cI x).toArray 51)).alloc (Obj.cells (cI y).toArray 51)).alloc (Obj.cells (cC ⟨0, noneI k0, noneI k0⟩).toArray 54)))
theorem chgW_bel (w : World) (k : Ky) (x y : It) : Below w.heap.size w (chgW w k x y) := bel_alloc (bel_alloc (bel_alloc (bel_alloc (Below.refl _ _) _) _) _) _
theorem chgW_1 (w : World) (k : Ky) (x y : It) : itAt (chgW w k x y) (w.heap.size + 1) 0 = some x := by unfold chgW; go_simp
theorem chgW_2 (w : World) (k : Ky) (x y : It) : itAt (chgW w k x y) (w.heap.size + 1 + 1) 0 = some y := by unfold chgW; go_simp
theorem chgW_3 (w : World) (k : Ky) (x y : It) : (chgW w k x y).there (w.heap.size + 1 + 1 + 1) 0 23 := by unfold chgW; go_simp

set_option maxHeartbeats 1000000 in
theorem change_nn (k : Ky) (a b : It) (w : World) :
    Calls Try.prog 44 #[vK k, vI a, .bool false, vI b, .bool false] w fun e w' => e = .returned (.tuple #[vC ⟨3, noneI k, noneI k⟩, .bool false]) ∧ Below w.heap.size w w' := by
  go_enter Try.func44, Try.ntmps44
  go_wp2
  have hB := chgW_bel w k (noneI k) (noneI k)
  have h1 := chgW_1 w k (noneI k) (noneI k)
  have h2 := chgW_2 w k (noneI k) (noneI k)
  have h3 := chgW_3 w k (noneI k) (noneI k)
  show Code.wp _ _ _ _ (chgW w k (noneI k) (noneI k))
  generalize chgW w k (noneI k) (noneI k) = W at *
  go_region
  have hx := ch_drew (chAt_setCells ⟨3, noneI k, noneI k⟩ h3)
  have hB' := (below_setCells (w.heap.size + 1 + 1 + 1) (cC ⟨3, noneI k, noneI k⟩) 0 hB (by omega)).drew
  generalize (W.setCells (w.heap.size + 1 + 1 + 1) 0 (cC ⟨3, noneI k, noneI k⟩)).drew = W2 at *
  clear h1 h2 h3 hB
  repeat go_step
  exact ret_chD2 (x := ⟨3, noneI k, noneI k⟩) Try.results44 rfl rfl hx ⟨rfl, hB'⟩

set_option maxHeartbeats 1000000 in
theorem change_ss (k : Ky) (a b : It) (w : World) :
    Calls Try.prog 44 #[vK k, vI a, .bool true, vI b, .bool true] w fun e w' => e = .returned (.tuple #[vC ⟨3, a, b⟩, .bool (!decide (a = b))]) ∧ Below w.heap.size w w' := by
  go_enter Try.func44, Try.ntmps44
  go_wp2
  have hB := chgW_bel w k a b
  have h1 := chgW_1 w k a b
  have h2 := chgW_2 w k a b
  have h3 := chgW_3 w k a b
  show Code.wp _ _ _ _ (chgW w k a b)
  generalize chgW w k a b = W at *
  go_region
  have hx := ch_drew (chAt_setCells ⟨3, a, b⟩ h3)
  have hB' := (below_setCells (w.heap.size + 1 + 1 + 1) (cC ⟨3, a, b⟩) 0 hB (by omega)).drew
  generalize (W.setCells (w.heap.size + 1 + 1 + 1) 0 (cC ⟨3, a, b⟩)).drew = W2 at *
  clear h1 h2 h3 hB
  repeat go_step
  exact ret_chD2 (x := ⟨3, a, b⟩) Try.results44 rfl rfl hx ⟨rfl, hB'⟩

set_option maxHeartbeats 1000000 in
theorem change_ns (k : Ky) (a b : It) (w : World) :
    Calls Try.prog 44 #[vK k, vI a, .bool false, vI b, .bool true] w fun e w' => e = .returned (.tuple #[vC ⟨1, noneI k, b⟩, .bool true]) ∧ Below w.heap.size w w' := by
  go_enter Try.func44, Try.ntmps44
  repeat (first | go_skip | go_guarded | go_step)
  exact ret_chD2 (x := ⟨1, noneI k, b⟩) Try.results44 rfl rfl (by go_simp) ⟨rfl, bel_alloc (bel_alloc (bel_alloc (bel_alloc (Below.refl _ _) _) _) _) _⟩

set_option maxHeartbeats 1000000 in
theorem change_sn (k : Ky) (a b : It) (w : World) :
    Calls Try.prog 44 #[vK k, vI a, .bool true, vI b, .bool false] w fun e w' => e = .returned (.tuple #[vC ⟨2, a, noneI k⟩, .bool true]) ∧ Below w.heap.size w w' := by
  go_enter Try.func44, Try.ntmps44
  repeat (first | go_skip | go_guarded | go_step)
  exact ret_chD2 (x := ⟨2, a, noneI k⟩) Try.results44 rfl rfl (by go_simp) ⟨rfl, bel_alloc (bel_alloc (bel_alloc (bel_alloc (Below.refl _ _) _) _) _) _⟩

theorem change_any (k : Ky) (a b : Option It) (w : World) :
    Calls Try.prog 44 #[vK k, vI (itOr a), .bool a.isSome, vI (itOr b), .bool b.isSome] w fun e w' => ∃ x, e = .returned (.tuple #[vC x, .bool (chg k a b).isSome]) ∧ (∀ c, chg k a b = some c → x = c) ∧ Below w.heap.size w w' := by
  cases a with
  | none =>
    cases b with
    | none => exact (change_nn k _ _ w).mono fun e w' ⟨he, hb⟩ => ⟨_, he, fun c h => by simp [chg] at h, hb⟩
    | some y => exact (change_ns k _ y w).mono fun e w' ⟨he, hb⟩ => ⟨_, he, fun c h => by simpa [chg] using h, hb⟩
  | some x =>
    cases b with
    | none => exact (change_sn k x _ w).mono fun e w' ⟨he, hb⟩ => ⟨_, he, fun c h => by simpa [chg] using h, hb⟩
    | some y =>
      refine (change_ss k x y w).mono fun e w' hh => ⟨⟨3, x, y⟩, ?_, fun c h => ?_, hh.2⟩
      · rw [hh.1]
        by_cases hxy : x = y
        · simp [chg, hxy]
        · simp [chg, hxy]
      · by_cases hxy : x = y
        · simp [chg, hxy] at h
        · simpa [chg, hxy] using h
end Go.Proofs.Ytdefpphfbpkeaaa
