/-
  The law DiffThen.
-/
import Derived.Test.YtdefpphfbpkeaaaRefThen2
import Derived.Test.YtdefpphfbpkeaaaChOpen
namespace Go.Proofs.Ytdefpphfbpkeaaa
open Go.RowKit
set_option linter.unusedVariables false

def errT (l m : List Ch) : Int := if checkL l ≠ 0 then checkL l else checkL m
theorem then_det {l m z z' : List Ch} {r r' : Int} (h : ThenOut l m z r) (h' : ThenOut l m z' r') : z' = z ∧ r' = r := by
  rcases h with ⟨h1, h2⟩ | ⟨h1, h2, h3⟩ <;> rcases h' with ⟨g1, g2⟩ | ⟨g1, g2, g3⟩
  · rw [h1] at g1; exact ⟨(Option.some.inj g1).symm, by rw [h2, g2]⟩
  · rw [h1] at g1; cases g1
  · rw [h1] at g1; cases g1
  · exact ⟨by rw [h2, g2], by rw [h3, g3]⟩
theorem rd_nilC (w : World) : Rd w 23 (.slice none 0 0) 0 (([] : List Ch).flatMap cC) := ⟨rfl, none, 0, rfl, Nat.le_refl _, by simp [maxLen], .inl rfl⟩
theorem fewL_len {l : List Ch} (h : fewL l = true) : l.length ≤ 30 := by
  unfold fewL at h; simp at h; exact h.1

set_option maxHeartbeats 1000000 in
theorem then_bad (A1 A2 : Option Addr) (n1 c1 n2 c2 : Nat) (l m : List Ch) (w : World) (h1 : Rd w 23 (.slice A1 n1 c1) n1 (l.flatMap cC)) (h2 : Rd w 23 (.slice A2 n2 c2) n2 (m.flatMap cC)) (hb : (checkL l == 0 && checkL m == 0) = false) :
    Calls Try.prog 20 #[.slice A1 n1 c1, .slice A2 n2 c2] w fun e w' => e = .returned (.tuple #[.slice none 0 0, .int .i64 (errT l m)]) ∧ Below w.heap.size w w' := by
  go_enter Try.func20, Try.ntmps20
  go_wp2_with fail
  refine (check_any _ _ _ l _ h1).mono ?_
  rintro e w1 ⟨rfl, hb1⟩
  by_cases hl : checkL l = 0
  · have hm : (checkL m != 0) = true := by rw [hl] at hb; simpa using hb
    have he : Hid (errT l m = checkL m) := by show _ = _; unfold errT; rw [if_neg (by simpa using hl)]
    have hq2 := h2.below hb1
    rw [hl]
    clear hb hl
    go_wp2_with fail
    refine (check_any _ _ _ m _ hq2).mono ?_
    rintro e w2 ⟨rfl, hb2⟩
    generalize checkL m = r at *
    have hbel0 := bel_call hb1 hb2
    clear hq2 hb1 hb2
    go_wp2
    go_ret2
    exact ⟨by rw [he.out]; rfl, hbel0⟩
  · have hm : (checkL l != 0) = true := by simpa using hl
    have he : Hid (errT l m = checkL l) := by show _ = _; unfold errT; rw [if_pos hl]
    clear hb hl
    generalize checkL l = r at *
    go_wp2
    go_ret2
    exact ⟨by rw [he.out]; rfl, hb1⟩

set_option maxHeartbeats 1000000 in
theorem refThen_bad (A1 A2 : Option Addr) (n1 c1 n2 c2 : Nat) (l m : List Ch) (w : World) (h1 : Rd w 23 (.slice A1 n1 c1) n1 (l.flatMap cC)) (h2 : Rd w 23 (.slice A2 n2 c2) n2 (m.flatMap cC)) (hb : (checkL l == 0 && checkL m == 0) = false) :
    Calls Try.prog 22 #[.slice A1 n1 c1, .slice A2 n2 c2] w fun e w' => e = .returned (.tuple #[.slice none 0 0, .int .i64 (errT l m)]) ∧ Below w.heap.size w w' := by
  go_enter Try.func22, Try.ntmps22
  go_wp2_with fail
  refine (refCheck_any _ _ _ l _ h1).mono ?_
  rintro e w1 ⟨rfl, hb1⟩
  by_cases hl : checkL l = 0
  · have hm : (checkL m != 0) = true := by rw [hl] at hb; simpa using hb
    have he : Hid (errT l m = checkL m) := by show _ = _; unfold errT; rw [if_neg (by simpa using hl)]
    have hq2 := h2.below hb1
    rw [hl]
    clear hb hl
    go_wp2_with fail
    refine (refCheck_any _ _ _ m _ hq2).mono ?_
    rintro e w2 ⟨rfl, hb2⟩
    generalize checkL m = r at *
    have hbel0 := bel_call hb1 hb2
    clear hq2 hb1 hb2
    go_wp2
    go_ret2
    exact ⟨by rw [he.out]; rfl, hbel0⟩
  · have hm : (checkL l != 0) = true := by simpa using hl
    have he : Hid (errT l m = checkL l) := by show _ = _; unfold errT; rw [if_pos hl]
    clear hb hl
    generalize checkL l = r at *
    go_wp2
    go_ret2
    exact ⟨by rw [he.out]; rfl, hb1⟩

set_option maxHeartbeats 2000000 in
theorem diffThen (x0 x1 : SlArg Ch) (w : World) (h0 : Rd w 23 (.slice x0.A x0.n x0.c) x0.n (x0.l.flatMap cC) ∧ ∀ q ∈ x0.l, okC q) (h1 : Rd w 23 (.slice x1.A x1.n x1.c) x1.n (x1.l.flatMap cC) ∧ ∀ q ∈ x1.l, okC q) :
    Calls Try.prog 4 #[.slice x0.A x0.n x0.c, .slice x1.A x1.n x1.c] w fun e w' => e = .returned (.bool true) ∧ Below w.heap.size w w' := by
  obtain ⟨A1, n1, c1, l⟩ := x0
  obtain ⟨A2, n2, c2, m⟩ := x1
  obtain ⟨hR1, _⟩ := h0
  obtain ⟨hR2, _⟩ := h1
  simp only at hR1 hR2 ⊢
  have hl1 := Lib.hid (hR1.rows (sz := 23) (f := cC) (fun q => rfl) (by decide))
  have hl2 := Lib.hid (hR2.rows (sz := 23) (f := cC) (fun q => rfl) (by decide))
  cases hla : fewL l with
  | false =>
    go_enter Try.func4, Try.ntmps4
    go_wp2_with fail
    refine (few_any _ _ _ l _ hR1).mono ?_
    rintro e w1 ⟨rfl, hb1⟩
    rw [hla]
    go_wp2_with (go_at_call 12; refine (awake47 _).mono ?_; rintro e w99 ⟨rfl, hb99⟩)
    go_ret
    exact ⟨rfl, bel_call hb1 hb99⟩
  | true =>
    cases hlb : fewL m with
    | false =>
      go_enter Try.func4, Try.ntmps4
      go_wp2_with fail
      refine (few_any _ _ _ l _ hR1).mono ?_
      rintro e w1 ⟨rfl, hb1⟩
      rw [hla]
      replace hR2 := hR2.below hb1
      go_wp2_with fail
      refine (few_any _ _ _ m _ hR2).mono ?_
      rintro e w2 ⟨rfl, hb2⟩
      rw [hlb]
      have hB2 := bel_call hb1 hb2
      go_wp2_with (go_at_call 12; refine (awake47 _).mono ?_; rintro e w99 ⟨rfl, hb99⟩)
      go_ret
      exact ⟨rfl, bel_call hB2 hb99⟩
    | true =>
      have hm1 := fewL_len hla
      have hm2 := fewL_len hlb
      go_enter Try.func4, Try.ntmps4
      go_wp2_with fail
      refine (few_any _ _ _ l _ hR1).mono ?_
      rintro e w1 ⟨rfl, hb1⟩
      replace hR1 := hR1.below hb1
      replace hR2 := hR2.below hb1
      have hB1 := hb1
      clear hb1
      rw [hla]
      go_wp2_with fail
      refine (few_any _ _ _ m _ hR2).mono ?_
      rintro e w2 ⟨rfl, hb2⟩
      replace hR1 := hR1.below hb2
      replace hR2 := hR2.below hb2
      have hB2 := bel_call hB1 hb2
      clear hB1 hb2
      rw [hlb]
      clear hla hlb
      go_wp2_with fail
      refine (own47_any _ _ _ l _ hR1 (by have := hl1.out; omega)).mono ?_
      rintro e w3 ⟨B1, d1, rfl, ho1, hb3⟩
      replace hR1 := hR1.below hb3
      replace hR2 := hR2.below hb3
      have hB3 := bel_call hB2 hb3
      clear hB2 hb3
      have hQ1 := Rd.of_own ho1
      clear ho1
      go_wp2_with fail
      refine (own47_any _ _ _ m _ hR2 (by have := hl2.out; omega)).mono ?_
      rintro e w4 ⟨B2, d2, rfl, ho2, hb4⟩
      replace hR1 := hR1.below hb4
      replace hR2 := hR2.below hb4
      replace hQ1 := hQ1.below hb4
      have hB4 := bel_call hB3 hb4
      clear hB3 hb4
      have hQ2 := Rd.of_own ho2
      clear ho2
      cases hgood : (checkL l == 0 && checkL m == 0) with
      | true =>
        obtain ⟨hcl, hcm⟩ := Bool.and_eq_true_iff.1 hgood
        replace hcl := Lib.hid (eq_of_beq hcl)
        replace hcm := Lib.hid (eq_of_beq hcm)
        clear hgood
        go_wp2_with fail
        refine (then_any _ _ _ _ _ _ l m _ hQ1 hQ2 (by have := hl1.out; omega) (by have := hl2.out; omega) hcl.out hcm.out).mono ?_
        rintro e w5 ⟨B3, d3, z, r, rfl, hto, ho3, hb5, hzl⟩
        replace hR1 := hR1.below hb5
        replace hR2 := hR2.below hb5
        have hB5 := bel_call hB4 hb5
        clear hB4 hb5
        have hX := Rd.of_own ho3
        clear ho3 hQ1 hQ2
        go_wp2_with fail
        refine (refThen_any _ _ _ _ _ _ l m _ hR1 hR2 (by have := hl1.out; omega) (by have := hl2.out; omega) hcl.out hcm.out).mono ?_
        rintro e w6 ⟨B4, d4, z2, r2, rfl, hto2, ho4, hb6⟩
        replace hX := hX.below hb6
        have hB6 := bel_call hB5 hb6
        clear hB5 hb6
        obtain ⟨rfl, rfl⟩ := then_det hto hto2
        have hY := Rd.of_own ho4
        clear ho4 hR1 hR2 hto hto2
        go_wp2_with fail
        refine (back47_any _ _ _ _ _ hX (by omega)).mono ?_
        rintro e w7 ⟨B5, d5, rfl, ho5, hb7⟩
        replace hY := hY.below hb7
        have hB7 := bel_call hB6 hb7
        clear hB6 hb7
        have hZ := Rd.of_own ho5
        clear ho5 hX
        go_wp2_with fail
        refine (same47_any _ _ _ _ _ _ _ _ _ hZ hY).mono ?_
        rintro e w8 ⟨rfl, hb8⟩
        have hB8 := bel_call hB7 hb8
        clear hB7 hb8
        rw [decide_eq_true rfl]
        clear hZ hY
        go_wp2_with (go_at_call 12; refine (awake47 _).mono ?_; rintro e w99 ⟨rfl, hb99⟩)
        go_ret
        exact ⟨rfl, bel_call hB8 hb99⟩
      | false =>
        go_wp2_with fail
        refine (then_bad _ _ _ _ _ _ l m _ hQ1 hQ2 hgood).mono ?_
        rintro e w5 ⟨rfl, hb5⟩
        replace hR1 := hR1.below hb5
        replace hR2 := hR2.below hb5
        have hB5 := bel_call hB4 hb5
        clear hB4 hb5
        clear hQ1 hQ2
        go_wp2_with fail
        refine (refThen_bad _ _ _ _ _ _ l m _ hR1 hR2 hgood).mono ?_
        rintro e w6 ⟨rfl, hb6⟩
        have hB6 := bel_call hB5 hb6
        clear hB5 hb6
        clear hR1 hR2 hgood
        generalize errT l m = r at *
        go_wp2_with fail
        refine (back47_any _ _ _ [] _ (rd_nilC _) (by omega)).mono ?_
        rintro e w7 ⟨B5, d5, rfl, ho5, hb7⟩
        have hB7 := bel_call hB6 hb7
        clear hB6 hb7
        have hZ := Rd.of_own ho5
        clear ho5
        go_wp2_with fail
        refine (same47_any _ _ _ _ _ _ [] [] _ hZ (rd_nilC _)).mono ?_
        rintro e w8 ⟨rfl, hb8⟩
        have hB8 := bel_call hB7 hb8
        clear hB7 hb8
        rw [decide_eq_true rfl]
        clear hZ
        go_wp2_with (go_at_call 12; refine (awake47 _).mono ?_; rintro e w99 ⟨rfl, hb99⟩)
        go_ret
        exact ⟨rfl, bel_call hB8 hb99⟩
end Go.Proofs.Ytdefpphfbpkeaaa
