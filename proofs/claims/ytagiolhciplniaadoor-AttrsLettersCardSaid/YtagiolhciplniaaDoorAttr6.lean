/-
  When what fields say ends.
-/
import Derived.Test.YtagiolhciplniaaDoorAttr5
namespace Go.Proofs.YtagiolhciplniaaDoor
open Go.RowKit
set_option linter.unusedVariables false

def clampN (now : Int) : Int := if now < 0 then 0 else if 1099511627776 < now then 1099511627776 else now
theorem clampN_bd (now : Int) : 0 ≤ clampN now ∧ clampN now ≤ 1099511627776 := by unfold clampN; split <;> (try split) <;> omega
def expI (f : Ff) (now : Int) : Int × Bool :=
  if f.ha then (if f.ag ≤ 0 then (-1099511627776, true) else if 1099511627776 - clampN now < f.ag then (1099511627776, true) else (clampN now + f.ag, true))
  else if f.he then (f.ex, true) else (1099511627776, false)

set_option maxRecDepth 4000 in
set_option maxHeartbeats 4000000 in
theorem expiry_any (f : Ff) (now : Int) (w : World) (h1 : -9223372036854775808 ≤ now) (h2 : now ≤ 9223372036854775807) :
    Calls Tryd.prog 29 #[.agg (ffC f), .int .i64 now] w fun e w' => e = .returned (.tuple #[.int .i64 (expI f now).1, .bool (expI f now).2]) ∧ Below w.heap.size w w' := by
  obtain ⟨he, ha, hd, hp, ex, ag, dm, pt, sc, ho⟩ := f
  have hT := Lib.hid (show expI ⟨he, ha, hd, hp, ex, ag, dm, pt, sc, ho⟩ now = (if ha then (if ag ≤ 0 then (-1099511627776, true) else if 1099511627776 - clampN now < ag then (1099511627776, true) else (clampN now + ag, true))
  else if he then (ex, true) else (1099511627776, false)) from rfl)
  have hcl : (now < 0 ∧ clampN now = 0) ∨ (0 ≤ now ∧ 1099511627776 < now ∧ clampN now = 1099511627776) ∨ (0 ≤ now ∧ now ≤ 1099511627776 ∧ clampN now = now) := by
    unfold clampN
    by_cases c1 : now < 0
    · exact .inl ⟨c1, if_pos c1⟩
    · rw [if_neg c1]
      by_cases c2 : 1099511627776 < now
      · exact .inr (.inl ⟨by omega, c2, if_pos c2⟩)
      · exact .inr (.inr ⟨by omega, by omega, if_neg c2⟩)
  unfold ffC
  simp only
  rcases hcl with ⟨c1, c3⟩ | ⟨c1, c2, c3⟩ | ⟨c1, c2, c3⟩
  · rw [c3] at hT
    clear c3
    cases ha with
    | true =>
      by_cases g1 : ag ≤ 0
      · have hE := Lib.hid (hT.out.trans (by rw [if_pos rfl, if_pos g1]))
        clear hT
        go_enter Tryd.func29, Tryd.ntmps29
        go_wp2
        go_ret2
        rw [hE.out]
        exact ⟨ret_two (by first | rfl | (show ag = 0 + ag; omega) | (show now + (1099511627776 - now) = 1099511627776; omega)) rfl, (Below.refl _ _).alloc (Nat.le_refl _) _⟩
      · by_cases g2 : 1099511627776 - (0 : Int) < ag
        · have hE := Lib.hid (hT.out.trans (by rw [if_pos rfl, if_neg g1, if_pos g2]))
          have g1' : 0 < ag := by omega
          clear g1
          clear hT
          go_enter Tryd.func29, Tryd.ntmps29
          go_wp2
          go_ret2
          rw [hE.out]
          exact ⟨ret_two (by first | rfl | (show ag = 0 + ag; omega) | (show now + (1099511627776 - now) = 1099511627776; omega)) rfl, (Below.refl _ _).alloc (Nat.le_refl _) _⟩
        · have hE := Lib.hid (hT.out.trans (by rw [if_pos rfl, if_neg g1, if_neg g2]))
          have g1' : 0 < ag := by omega
          have g2' : ag ≤ 1099511627776 - (0 : Int) := by omega
          clear g1 g2
          clear hT
          go_enter Tryd.func29, Tryd.ntmps29
          go_wp2
          go_ret2
          rw [hE.out]
          exact ⟨ret_two (by first | rfl | (show ag = 0 + ag; omega) | (show now + (1099511627776 - now) = 1099511627776; omega)) rfl, (Below.refl _ _).alloc (Nat.le_refl _) _⟩
    | false =>
      cases he with
      | true =>
        have hE := Lib.hid (hT.out.trans (by rw [if_neg (by decide), if_pos rfl]))
        clear hT
        go_enter Tryd.func29, Tryd.ntmps29
        go_wp2
        go_ret2
        rw [hE.out]
        exact ⟨ret_two (by first | rfl | (show ag = 0 + ag; omega) | (show now + (1099511627776 - now) = 1099511627776; omega)) rfl, (Below.refl _ _).alloc (Nat.le_refl _) _⟩
      | false =>
        have hE := Lib.hid (hT.out.trans (by rw [if_neg (by decide), if_neg (by decide)]))
        clear hT
        go_enter Tryd.func29, Tryd.ntmps29
        go_wp2
        go_ret2
        rw [hE.out]
        exact ⟨ret_two (by first | rfl | (show ag = 0 + ag; omega) | (show now + (1099511627776 - now) = 1099511627776; omega)) rfl, (Below.refl _ _).alloc (Nat.le_refl _) _⟩
  · rw [c3] at hT
    clear c3
    cases ha with
    | true =>
      by_cases g1 : ag ≤ 0
      · have hE := Lib.hid (hT.out.trans (by rw [if_pos rfl, if_pos g1]))
        clear hT
        go_enter Tryd.func29, Tryd.ntmps29
        go_wp2
        go_ret2
        rw [hE.out]
        exact ⟨ret_two (by first | rfl | (show ag = 0 + ag; omega) | (show now + (1099511627776 - now) = 1099511627776; omega)) rfl, (Below.refl _ _).alloc (Nat.le_refl _) _⟩
      · by_cases g2 : 1099511627776 - (1099511627776 : Int) < ag
        · have hE := Lib.hid (hT.out.trans (by rw [if_pos rfl, if_neg g1, if_pos g2]))
          have g1' : 0 < ag := by omega
          clear g1
          clear hT
          go_enter Tryd.func29, Tryd.ntmps29
          go_wp2
          go_ret2
          rw [hE.out]
          exact ⟨ret_two (by first | rfl | (show ag = 0 + ag; omega) | (show now + (1099511627776 - now) = 1099511627776; omega)) rfl, (Below.refl _ _).alloc (Nat.le_refl _) _⟩
        · have hE := Lib.hid (hT.out.trans (by rw [if_pos rfl, if_neg g1, if_neg g2]))
          have g1' : 0 < ag := by omega
          have g2' : ag ≤ 1099511627776 - (1099511627776 : Int) := by omega
          clear g1 g2
          omega
    | false =>
      cases he with
      | true =>
        have hE := Lib.hid (hT.out.trans (by rw [if_neg (by decide), if_pos rfl]))
        clear hT
        go_enter Tryd.func29, Tryd.ntmps29
        go_wp2
        go_ret2
        rw [hE.out]
        exact ⟨ret_two (by first | rfl | (show ag = 0 + ag; omega) | (show now + (1099511627776 - now) = 1099511627776; omega)) rfl, (Below.refl _ _).alloc (Nat.le_refl _) _⟩
      | false =>
        have hE := Lib.hid (hT.out.trans (by rw [if_neg (by decide), if_neg (by decide)]))
        clear hT
        go_enter Tryd.func29, Tryd.ntmps29
        go_wp2
        go_ret2
        rw [hE.out]
        exact ⟨ret_two (by first | rfl | (show ag = 0 + ag; omega) | (show now + (1099511627776 - now) = 1099511627776; omega)) rfl, (Below.refl _ _).alloc (Nat.le_refl _) _⟩
  · rw [c3] at hT
    clear c3
    cases ha with
    | true =>
      by_cases g1 : ag ≤ 0
      · have hE := Lib.hid (hT.out.trans (by rw [if_pos rfl, if_pos g1]))
        clear hT
        go_enter Tryd.func29, Tryd.ntmps29
        go_wp2
        go_ret2
        rw [hE.out]
        exact ⟨ret_two (by first | rfl | (show ag = 0 + ag; omega) | (show now + (1099511627776 - now) = 1099511627776; omega)) rfl, (Below.refl _ _).alloc (Nat.le_refl _) _⟩
      · by_cases g2 : 1099511627776 - (now : Int) < ag
        · have hE := Lib.hid (hT.out.trans (by rw [if_pos rfl, if_neg g1, if_pos g2]))
          have g1' : 0 < ag := by omega
          clear g1
          clear hT
          go_enter Tryd.func29, Tryd.ntmps29
          go_wp2
          go_ret2
          rw [hE.out]
          exact ⟨ret_two (by first | rfl | (show ag = 0 + ag; omega) | (show now + (1099511627776 - now) = 1099511627776; omega)) rfl, (Below.refl _ _).alloc (Nat.le_refl _) _⟩
        · have hE := Lib.hid (hT.out.trans (by rw [if_pos rfl, if_neg g1, if_neg g2]))
          have g1' : 0 < ag := by omega
          have g2' : ag ≤ 1099511627776 - (now : Int) := by omega
          clear g1 g2
          clear hT
          go_enter Tryd.func29, Tryd.ntmps29
          go_wp2
          go_ret2
          rw [hE.out]
          exact ⟨ret_two (by first | rfl | (show ag = 0 + ag; omega) | (show now + (1099511627776 - now) = 1099511627776; omega)) rfl, (Below.refl _ _).alloc (Nat.le_refl _) _⟩
    | false =>
      cases he with
      | true =>
        have hE := Lib.hid (hT.out.trans (by rw [if_neg (by decide), if_pos rfl]))
        clear hT
        go_enter Tryd.func29, Tryd.ntmps29
        go_wp2
        go_ret2
        rw [hE.out]
        exact ⟨ret_two (by first | rfl | (show ag = 0 + ag; omega) | (show now + (1099511627776 - now) = 1099511627776; omega)) rfl, (Below.refl _ _).alloc (Nat.le_refl _) _⟩
      | false =>
        have hE := Lib.hid (hT.out.trans (by rw [if_neg (by decide), if_neg (by decide)]))
        clear hT
        go_enter Tryd.func29, Tryd.ntmps29
        go_wp2
        go_ret2
        rw [hE.out]
        exact ⟨ret_two (by first | rfl | (show ag = 0 + ag; omega) | (show now + (1099511627776 - now) = 1099511627776; omega)) rfl, (Below.refl _ _).alloc (Nat.le_refl _) _⟩
set_option maxRecDepth 4000 in
set_option maxHeartbeats 4000000 in
theorem refExpiry_any (f : Ff) (now : Int) (w : World) (h1 : -9223372036854775808 ≤ now) (h2 : now ≤ 9223372036854775807) :
    Calls Tryd.prog 30 #[.agg (ffC f), .int .i64 now] w fun e w' => e = .returned (.tuple #[.int .i64 (expI f now).1, .bool (expI f now).2]) ∧ Below w.heap.size w w' := by
  obtain ⟨he, ha, hd, hp, ex, ag, dm, pt, sc, ho⟩ := f
  have hT := Lib.hid (show expI ⟨he, ha, hd, hp, ex, ag, dm, pt, sc, ho⟩ now = (if ha then (if ag ≤ 0 then (-1099511627776, true) else if 1099511627776 - clampN now < ag then (1099511627776, true) else (clampN now + ag, true))
  else if he then (ex, true) else (1099511627776, false)) from rfl)
  have hcl : (now < 0 ∧ clampN now = 0) ∨ (0 ≤ now ∧ 1099511627776 < now ∧ clampN now = 1099511627776) ∨ (0 ≤ now ∧ now ≤ 1099511627776 ∧ clampN now = now) := by
    unfold clampN
    by_cases c1 : now < 0
    · exact .inl ⟨c1, if_pos c1⟩
    · rw [if_neg c1]
      by_cases c2 : 1099511627776 < now
      · exact .inr (.inl ⟨by omega, c2, if_pos c2⟩)
      · exact .inr (.inr ⟨by omega, by omega, if_neg c2⟩)
  unfold ffC
  simp only
  rcases hcl with ⟨c1, c3⟩ | ⟨c1, c2, c3⟩ | ⟨c1, c2, c3⟩
  · rw [c3] at hT
    clear c3
    cases ha with
    | true =>
      by_cases g1 : ag ≤ 0
      · have hE := Lib.hid (hT.out.trans (by rw [if_pos rfl, if_pos g1]))
        clear hT
        go_enter Tryd.func30, Tryd.ntmps30
        go_wp2
        go_ret2
        rw [hE.out]
        exact ⟨ret_two (by first | rfl | (show ag = 0 + ag; omega) | (show now + (1099511627776 - now) = 1099511627776; omega)) rfl, (Below.refl _ _).alloc (Nat.le_refl _) _⟩
      · by_cases g2 : 1099511627776 - (0 : Int) < ag
        · have hE := Lib.hid (hT.out.trans (by rw [if_pos rfl, if_neg g1, if_pos g2]))
          have g1' : 0 < ag := by omega
          clear g1
          clear hT
          go_enter Tryd.func30, Tryd.ntmps30
          go_wp2
          go_ret2
          rw [hE.out]
          exact ⟨ret_two (by first | rfl | (show ag = 0 + ag; omega) | (show now + (1099511627776 - now) = 1099511627776; omega)) rfl, (Below.refl _ _).alloc (Nat.le_refl _) _⟩
        · have hE := Lib.hid (hT.out.trans (by rw [if_pos rfl, if_neg g1, if_neg g2]))
          have g1' : 0 < ag := by omega
          have g2' : ag ≤ 1099511627776 - (0 : Int) := by omega
          clear g1 g2
          clear hT
          go_enter Tryd.func30, Tryd.ntmps30
          go_wp2
          go_ret2
          rw [hE.out]
          exact ⟨ret_two (by first | rfl | (show ag = 0 + ag; omega) | (show now + (1099511627776 - now) = 1099511627776; omega)) rfl, (Below.refl _ _).alloc (Nat.le_refl _) _⟩
    | false =>
      cases he with
      | true =>
        have hE := Lib.hid (hT.out.trans (by rw [if_neg (by decide), if_pos rfl]))
        clear hT
        go_enter Tryd.func30, Tryd.ntmps30
        go_wp2
        go_ret2
        rw [hE.out]
        exact ⟨ret_two (by first | rfl | (show ag = 0 + ag; omega) | (show now + (1099511627776 - now) = 1099511627776; omega)) rfl, (Below.refl _ _).alloc (Nat.le_refl _) _⟩
      | false =>
        have hE := Lib.hid (hT.out.trans (by rw [if_neg (by decide), if_neg (by decide)]))
        clear hT
        go_enter Tryd.func30, Tryd.ntmps30
        go_wp2
        go_ret2
        rw [hE.out]
        exact ⟨ret_two (by first | rfl | (show ag = 0 + ag; omega) | (show now + (1099511627776 - now) = 1099511627776; omega)) rfl, (Below.refl _ _).alloc (Nat.le_refl _) _⟩
  · rw [c3] at hT
    clear c3
    cases ha with
    | true =>
      by_cases g1 : ag ≤ 0
      · have hE := Lib.hid (hT.out.trans (by rw [if_pos rfl, if_pos g1]))
        clear hT
        go_enter Tryd.func30, Tryd.ntmps30
        go_wp2
        go_ret2
        rw [hE.out]
        exact ⟨ret_two (by first | rfl | (show ag = 0 + ag; omega) | (show now + (1099511627776 - now) = 1099511627776; omega)) rfl, (Below.refl _ _).alloc (Nat.le_refl _) _⟩
      · by_cases g2 : 1099511627776 - (1099511627776 : Int) < ag
        · have hE := Lib.hid (hT.out.trans (by rw [if_pos rfl, if_neg g1, if_pos g2]))
          have g1' : 0 < ag := by omega
          clear g1
          clear hT
          go_enter Tryd.func30, Tryd.ntmps30
          go_wp2
          go_ret2
          rw [hE.out]
          exact ⟨ret_two (by first | rfl | (show ag = 0 + ag; omega) | (show now + (1099511627776 - now) = 1099511627776; omega)) rfl, (Below.refl _ _).alloc (Nat.le_refl _) _⟩
        · have hE := Lib.hid (hT.out.trans (by rw [if_pos rfl, if_neg g1, if_neg g2]))
          have g1' : 0 < ag := by omega
          have g2' : ag ≤ 1099511627776 - (1099511627776 : Int) := by omega
          clear g1 g2
          omega
    | false =>
      cases he with
      | true =>
        have hE := Lib.hid (hT.out.trans (by rw [if_neg (by decide), if_pos rfl]))
        clear hT
        go_enter Tryd.func30, Tryd.ntmps30
        go_wp2
        go_ret2
        rw [hE.out]
        exact ⟨ret_two (by first | rfl | (show ag = 0 + ag; omega) | (show now + (1099511627776 - now) = 1099511627776; omega)) rfl, (Below.refl _ _).alloc (Nat.le_refl _) _⟩
      | false =>
        have hE := Lib.hid (hT.out.trans (by rw [if_neg (by decide), if_neg (by decide)]))
        clear hT
        go_enter Tryd.func30, Tryd.ntmps30
        go_wp2
        go_ret2
        rw [hE.out]
        exact ⟨ret_two (by first | rfl | (show ag = 0 + ag; omega) | (show now + (1099511627776 - now) = 1099511627776; omega)) rfl, (Below.refl _ _).alloc (Nat.le_refl _) _⟩
  · rw [c3] at hT
    clear c3
    cases ha with
    | true =>
      by_cases g1 : ag ≤ 0
      · have hE := Lib.hid (hT.out.trans (by rw [if_pos rfl, if_pos g1]))
        clear hT
        go_enter Tryd.func30, Tryd.ntmps30
        go_wp2
        go_ret2
        rw [hE.out]
        exact ⟨ret_two (by first | rfl | (show ag = 0 + ag; omega) | (show now + (1099511627776 - now) = 1099511627776; omega)) rfl, (Below.refl _ _).alloc (Nat.le_refl _) _⟩
      · by_cases g2 : 1099511627776 - (now : Int) < ag
        · have hE := Lib.hid (hT.out.trans (by rw [if_pos rfl, if_neg g1, if_pos g2]))
          have g1' : 0 < ag := by omega
          clear g1
          clear hT
          go_enter Tryd.func30, Tryd.ntmps30
          go_wp2
          go_ret2
          rw [hE.out]
          exact ⟨ret_two (by first | rfl | (show ag = 0 + ag; omega) | (show now + (1099511627776 - now) = 1099511627776; omega)) rfl, (Below.refl _ _).alloc (Nat.le_refl _) _⟩
        · have hE := Lib.hid (hT.out.trans (by rw [if_pos rfl, if_neg g1, if_neg g2]))
          have g1' : 0 < ag := by omega
          have g2' : ag ≤ 1099511627776 - (now : Int) := by omega
          clear g1 g2
          clear hT
          go_enter Tryd.func30, Tryd.ntmps30
          go_wp2
          go_ret2
          rw [hE.out]
          exact ⟨ret_two (by first | rfl | (show ag = 0 + ag; omega) | (show now + (1099511627776 - now) = 1099511627776; omega)) rfl, (Below.refl _ _).alloc (Nat.le_refl _) _⟩
    | false =>
      cases he with
      | true =>
        have hE := Lib.hid (hT.out.trans (by rw [if_neg (by decide), if_pos rfl]))
        clear hT
        go_enter Tryd.func30, Tryd.ntmps30
        go_wp2
        go_ret2
        rw [hE.out]
        exact ⟨ret_two (by first | rfl | (show ag = 0 + ag; omega) | (show now + (1099511627776 - now) = 1099511627776; omega)) rfl, (Below.refl _ _).alloc (Nat.le_refl _) _⟩
      | false =>
        have hE := Lib.hid (hT.out.trans (by rw [if_neg (by decide), if_neg (by decide)]))
        clear hT
        go_enter Tryd.func30, Tryd.ntmps30
        go_wp2
        go_ret2
        rw [hE.out]
        exact ⟨ret_two (by first | rfl | (show ag = 0 + ag; omega) | (show now + (1099511627776 - now) = 1099511627776; omega)) rfl, (Below.refl _ _).alloc (Nat.le_refl _) _⟩
end Go.Proofs.YtagiolhciplniaaDoor
