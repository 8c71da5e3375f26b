/-
  The law DiffApplies.
-/
import Derived.Test.YtdefpphfbpkeaaaDiffBack
import Derived.Test.YtdefpphfbpkeaaaDiffThen
namespace Go.Proofs.Ytdefpphfbpkeaaa
open Go.RowKit
set_option linter.unusedVariables false

def resA (a : List It) (l : List Ch) : List It := if risB a && checkL l == 0 then (appL a l).getD [] else []
def errF (a : List It) (l : List Ch) : Int := if risB a && checkL l == 0 then (if (appL a l).isSome then 0 else 10) else errA a l
theorem rd_nilI (w : World) : Rd w 11 (.slice none 0 0) 0 (([] : List It).flatMap cI) := ⟨rfl, none, 0, rfl, Nat.le_refl _, by simp [maxLen], .inl rfl⟩

theorem apply_all (A1 A2 : Option Addr) (n1 c1 n2 c2 : Nat) (a : List It) (l : List Ch) (w : World) (h1 : Rd w 11 (.slice A1 n1 c1) n1 (a.flatMap cI)) (h2 : Rd w 23 (.slice A2 n2 c2) n2 (l.flatMap cC)) (hn1 : n1 ≤ 40000) (hn2 : n2 ≤ 40000) :
    Calls Try.prog 24 #[.slice A1 n1 c1, .slice A2 n2 c2] w fun e w' => ∃ A c, e = .returned (.tuple #[.slice A (resA a l).length c, .int .i64 (errF a l)]) ∧ Rd w' 11 (.slice A (resA a l).length c) (resA a l).length ((resA a l).flatMap cI) ∧ Below w.heap.size w w' := by
  cases hg : (risB a && checkL l == 0) with
  | false =>
    refine (apply_bad A1 A2 n1 c1 n2 c2 a l w h1 h2 hg).mono ?_
    rintro e w1 ⟨rfl, hb1⟩
    have e1 : resA a l = [] := by unfold resA; rw [hg]; rfl
    have e2 : errF a l = errA a l := by unfold errF; rw [hg]; rfl
    rw [e1, e2]
    exact ⟨none, 0, rfl, rd_nilI w1, hb1⟩
  | true =>
    obtain ⟨hr, hcl⟩ := Bool.and_eq_true_iff.1 hg
    refine (apply_any A1 A2 n1 c1 n2 c2 a l w h1 h2 hn1 hn2 hr (eq_of_beq hcl)).mono ?_
    intro e w1 h
    unfold AppPost at h
    cases hab : appL a l with
    | none =>
      rw [hab] at h
      obtain ⟨rfl, hb1⟩ := h
      have e1 : resA a l = [] := by unfold resA; rw [hg, hab]; rfl
      have e2 : errF a l = 10 := by unfold errF; rw [hg, hab]; rfl
      rw [e1, e2]
      exact ⟨none, 0, rfl, rd_nilI w1, hb1⟩
    | some b =>
      rw [hab] at h
      obtain ⟨A, c, rfl, ho, hb1⟩ := h
      have e1 : resA a l = b := by unfold resA; rw [hg, hab]; rfl
      have e2 : errF a l = 0 := by unfold errF; rw [hg, hab]; rfl
      rw [e1, e2]
      exact ⟨A, c, rfl, Rd.of_own ho, hb1⟩

theorem refApply_all (A1 A2 : Option Addr) (n1 c1 n2 c2 : Nat) (a : List It) (l : List Ch) (w : World) (h1 : Rd w 11 (.slice A1 n1 c1) n1 (a.flatMap cI)) (h2 : Rd w 23 (.slice A2 n2 c2) n2 (l.flatMap cC)) (hn1 : n1 ≤ 40000) (hn2 : n2 ≤ 40000) :
    Calls Try.prog 25 #[.slice A1 n1 c1, .slice A2 n2 c2] w fun e w' => ∃ A c, e = .returned (.tuple #[.slice A (resA a l).length c, .int .i64 (errF a l)]) ∧ Rd w' 11 (.slice A (resA a l).length c) (resA a l).length ((resA a l).flatMap cI) ∧ Below w.heap.size w w' := by
  cases hg : (risB a && checkL l == 0) with
  | false =>
    refine (refApply_bad A1 A2 n1 c1 n2 c2 a l w h1 h2 hg).mono ?_
    rintro e w1 ⟨rfl, hb1⟩
    have e1 : resA a l = [] := by unfold resA; rw [hg]; rfl
    have e2 : errF a l = errA a l := by unfold errF; rw [hg]; rfl
    rw [e1, e2]
    exact ⟨none, 0, rfl, rd_nilI w1, hb1⟩
  | true =>
    obtain ⟨hr, hcl⟩ := Bool.and_eq_true_iff.1 hg
    refine (refApply_any A1 A2 n1 c1 n2 c2 a l w h1 h2 hn1 hn2 hr (eq_of_beq hcl)).mono ?_
    intro e w1 h
    unfold RefAppPost at h
    cases hab : appL a l with
    | none =>
      rw [hab] at h
      obtain ⟨rfl, hb1⟩ := h
      have e1 : resA a l = [] := by unfold resA; rw [hg, hab]; rfl
      have e2 : errF a l = 10 := by unfold errF; rw [hg, hab]; rfl
      rw [e1, e2]
      exact ⟨none, 0, rfl, rd_nilI w1, hb1⟩
    | some b =>
      rw [hab] at h
      obtain ⟨A, c, rfl, ho, hb1⟩ := h
      have e1 : resA a l = b := by unfold resA; rw [hg, hab]; rfl
      have e2 : errF a l = 0 := by unfold errF; rw [hg, hab]; rfl
      rw [e1, e2]
      exact ⟨A, c, rfl, ho, hb1⟩

set_option maxHeartbeats 4000000 in
theorem diffApplies (x0 : SlArg It) (x1 : SlArg Ch) (w : World) (h0 : Rd w 11 (.slice x0.A x0.n x0.c) x0.n (x0.l.flatMap cI) ∧ ∀ q ∈ x0.l, okI q) (h1 : Rd w 23 (.slice x1.A x1.n x1.c) x1.n (x1.l.flatMap cC) ∧ ∀ q ∈ x1.l, okC q) :
    Calls Try.prog 6 #[.slice x0.A x0.n x0.c, .slice x1.A x1.n x1.c] w fun e w' => e = .returned (.bool true) ∧ Below w.heap.size w w' := by
  obtain ⟨A1, n1, c1, a⟩ := x0
  obtain ⟨A2, n2, c2, l⟩ := x1
  obtain ⟨hR1, _⟩ := h0
  obtain ⟨hR2, _⟩ := h1
  simp only at hR1 hR2 ⊢
  have hl1 := Lib.hid (hR1.rows (sz := 11) (f := cI) (fun q => rfl) (by decide))
  have hl2 := Lib.hid (hR2.rows (sz := 23) (f := cC) (fun q => rfl) (by decide))
  cases hla : lightL 30 a with
  | false =>
    go_enter Try.func6, Try.ntmps6
    go_wp2_with fail
    refine (light47_any _ _ _ a _ hR1).mono ?_
    rintro e w1 ⟨rfl, hb1⟩
    rw [hla]
    go_wp2_with (go_at_call 12; refine (awake47 _).mono ?_; rintro e w99 ⟨rfl, hb99⟩)
    go_ret
    exact ⟨rfl, bel_call hb1 hb99⟩
  | true =>
    cases hlb : fewL l with
    | false =>
      go_enter Try.func6, Try.ntmps6
      go_wp2_with fail
      refine (light47_any _ _ _ a _ hR1).mono ?_
      rintro e w1 ⟨rfl, hb1⟩
      rw [hla]
      replace hR2 := hR2.below hb1
      go_wp2_with fail
      refine (few_any _ _ _ l _ hR2).mono ?_
      rintro e w2 ⟨rfl, hb2⟩
      rw [hlb]
      have hB2 := bel_call hb1 hb2
      go_wp2_with (go_at_call 12; refine (awake47 _).mono ?_; rintro e w99 ⟨rfl, hb99⟩)
      go_ret
      exact ⟨rfl, bel_call hB2 hb99⟩
    | true =>
      have hm1 := lightL_len hla
      have hm2 := fewL_len hlb
      go_enter Try.func6, Try.ntmps6
      go_wp2_with fail
      refine (light47_any _ _ _ a _ hR1).mono ?_
      rintro e w1 ⟨rfl, hb1⟩
      replace hR1 := hR1.below hb1
      replace hR2 := hR2.below hb1
      have hB1 := hb1
      clear hb1
      rw [hla]
      go_wp2_with fail
      refine (few_any _ _ _ l _ hR2).mono ?_
      rintro e w2 ⟨rfl, hb2⟩
      replace hR1 := hR1.below hb2
      replace hR2 := hR2.below hb2
      have hB2 := bel_call hB1 hb2
      clear hB1 hb2
      rw [hlb]
      clear hla hlb
      go_wp2_with fail
      refine (own47_any _ _ _ l _ hR2 (by have := hl2.out; omega)).mono ?_
      rintro e w3 ⟨B1, d1, rfl, ho1, hb3⟩
      replace hR1 := hR1.below hb3
      replace hR2 := hR2.below hb3
      have hB3 := bel_call hB2 hb3
      clear hB2 hb3
      have hQ1 := Rd.of_own ho1
      clear ho1
      go_wp2_with fail
      refine (apply_all _ _ _ _ _ _ a l _ hR1 hQ1 (by have := hl1.out; omega) (by have := hl2.out; omega)).mono ?_
      rintro e w4 ⟨B2, d2, rfl, hX, hb4⟩
      replace hR1 := hR1.below hb4
      replace hR2 := hR2.below hb4
      have hB4 := bel_call hB3 hb4
      clear hB3 hb4
      clear hQ1
      go_wp2_with fail
      refine (refApply_all _ _ _ _ _ _ a l _ hR1 hR2 (by have := hl1.out; omega) (by have := hl2.out; omega)).mono ?_
      rintro e w5 ⟨B3, d3, rfl, hY, hb5⟩
      replace hR2 := hR2.below hb5
      replace hX := hX.below hb5
      have hB5 := bel_call hB4 hb5
      clear hB4 hb5
      clear hR1
      generalize errF a l = r at *
      generalize resA a l = z at *
      obtain ⟨W0, hW0⟩ : ∃ W0 : World, W0 = w5 := ⟨_, rfl⟩
      have hBB := Lib.hid hB5
      have hlen := hl2.out
      have hcap2 := hR2.cap
      unfold maxLen at hcap2
      obtain ⟨hca2, hcb2⟩ := hcap2
      rw [← hlen] at hR2 hca2
      rw [← hW0] at hR2 hX hY hBB
      clear hl1 hlen hB5
      have hb0 : Below W0.heap.size W0 w5 := by rw [hW0]; exact Below.refl _ _
      clear hW0
      rw [show n2 = l.length from hl2.out.symm] at *
      go_wp2
      go_loopw [9] (fun i wr => ∃ k : Nat, k ≤ l.length ∧ i = .int .i64 k ∧ Below W0.heap.size W0 wr) (fun i _ => l.length - (intOf i).toNat)
      case atStart => exact ⟨0, Nat.zero_le _, rfl, hb0⟩
      case round =>
        obtain ⟨k, hk, rfl, hbel⟩ := hrel
        by_cases hlt : k < l.length
        · have hki : (k : Int) < l.length := by omega
          have hk0 : (0 : Int) ≤ (k : Int) := by omega
          obtain ⟨b, off, rfl, hb, hx⟩ := (hR2.below hbel).changes hlt
          have hxk := hx k hlt
          clear hx hX hY hb0
          have hxd := chAt_later hxk (Below.refl _ _).drew
          have hbelD := hbel.drew
          go_wp2
          go_region_held3 (fun w' => chAt w' b (off + k * 23) = some l[k]) (first | exact hxd | exact chAt_later hxd hb21 | exact chAt_later hxd hb22 | exact chAt_later (chAt_later hxd hb21) hb22 | exact chAt_later (chAt_later hxd hb22) hb21) (first | (go_at_call 26; refine (right_any _ _).mono ?_; rintro e w21 ⟨rfl, hb21⟩) | (go_at_call 27; refine (refRight_any _ _).mono ?_; rintro e w22 ⟨rfl, hb22⟩))
          have hB5 := bel_call (bel_call hbelD hb21) hb22
          clear hbelD hb21 hb22 hxd hxk hbel hb
          go_wp2
          go_roundw
          case rel => exact ⟨k + 1, by omega, by go_num, hB5⟩
          case measure => simp [intOf]; omega
        · obtain rfl : k = l.length := by omega
          have hR2' := hR2.below hbel
          have hX' := hX.below hbel
          have hY' := hY.below hbel
          have hBw := bel_call hBB.out hbel
          clear hR2 hX hY hb0 hbel hBB hl2 hk
          go_wp2_with fail
          refine (sameI_any _ _ _ _ _ _ z z _ hX' hY').mono ?_
          rintro e w31 ⟨rfl, hb31⟩
          replace hR2' := hR2'.below hb31
          have hB31 := bel_call hBw hb31
          clear hBw hb31
          rw [decide_eq_true rfl]
          clear hX' hY'
          go_wp2_with fail
          refine (own47_any _ _ _ l _ hR2' (by omega)).mono ?_
          rintro e w32 ⟨B4, d4, rfl, ho4, hb32⟩
          replace hR2' := hR2'.below hb32
          have hB32 := bel_call hB31 hb32
          clear hB31 hb32
          have hZ := Rd.of_own ho4
          clear ho4
          go_wp2_with fail
          refine (check_any _ _ _ l _ hZ).mono ?_
          rintro e w33 ⟨rfl, hb33⟩
          replace hR2' := hR2'.below hb33
          have hB33 := bel_call hB32 hb33
          clear hB32 hb33
          clear hZ
          go_wp2_with fail
          refine (refCheck_any _ _ _ l _ hR2').mono ?_
          rintro e w34 ⟨rfl, hb34⟩
          replace hR2' := hR2'.below hb34
          have hB34 := bel_call hB33 hb34
          clear hB33 hb34
          generalize checkL l = q at *
          go_wp2_with fail
          refine (own47_any _ _ _ l _ hR2' (by omega)).mono ?_
          rintro e w35 ⟨B5, d5, rfl, ho5, hb35⟩
          replace hR2' := hR2'.below hb35
          have hB35 := bel_call hB34 hb35
          clear hB34 hb35
          have hZ := Rd.of_own ho5
          clear ho5
          go_wp2_with fail
          refine (dBack_any _ _ _ l _ hZ (by omega)).mono ?_
          rintro e w36 ⟨B6, d6, rfl, ho6, hb36⟩
          replace hR2' := hR2'.below hb36
          have hB36 := bel_call hB35 hb36
          clear hB35 hb36
          have hT := Rd.of_own ho6
          clear ho6 hZ
          go_wp2_with fail
          refine (back47_any _ _ _ (backL l) _ hT (by omega)).mono ?_
          rintro e w37 ⟨B7, d7, rfl, ho7, hb37⟩
          replace hR2' := hR2'.below hb37
          have hB37 := bel_call hB36 hb37
          clear hB36 hb37
          have hU := Rd.of_own ho7
          clear ho7 hT
          go_wp2_with fail
          refine (refBack_any _ _ _ l _ hR2' (by omega)).mono ?_
          rintro e w38 ⟨B8, d8, rfl, ho8, hb38⟩
          replace hU := hU.below hb38
          have hB38 := bel_call hB37 hb38
          clear hB37 hb38
          have hV := Rd.of_own ho8
          clear ho8 hR2'
          go_wp2_with fail
          refine (same47_any _ _ _ _ _ _ _ _ _ hU hV).mono ?_
          rintro e w39 ⟨rfl, hb39⟩
          have hB39 := bel_call hB38 hb39
          clear hB38 hb39
          rw [decide_eq_true rfl]
          clear hU hV
          go_wp2_with (go_at_call 12; refine (awake47 _).mono ?_; rintro e w99 ⟨rfl, hb99⟩)
          go_ret
          exact ⟨rfl, bel_call hB39 hb99⟩
end Go.Proofs.Ytdefpphfbpkeaaa
