/-
  The law MatchSorts.
-/
import Derived.Test.YtdefpphfbpkeaaaMatch15
import Derived.Test.YtdefpphfbpkeaaaSort8
import Derived.Test.YtdefpphfbpkeaaaAppl1
import Derived.Test.YtdefpphfbpkeaaaItemOpen
namespace Go.Proofs.Ytdefpphfbpkeaaa
open Go.RowKit
set_option linter.unusedVariables false

theorem lightL60 {l : List It} (h : lightL 60 l = true) : l.length ≤ 60 ∧ Lim l ∧ Sml l := by
  unfold lightL at h
  simp only [Bool.and_eq_true, decide_eq_true_eq, List.all_eq_true] at h
  refine ⟨h.1, fun x hx => ?_, fun x hx => ?_⟩
  · have := h.2 x hx
    unfold lightX at this
    simp only [Bool.and_eq_true, decide_eq_true_eq] at this
    omega
  · have := h.2 x hx
    unfold lightX at this
    simp only [Bool.and_eq_true, decide_eq_true_eq] at this
    omega
set_option maxHeartbeats 2000000 in
theorem matchSorts (x0 : SlArg It) (w : World) (h0 : Rd w 11 (.slice x0.A x0.n x0.c) x0.n (x0.l.flatMap cI) ∧ ∀ q ∈ x0.l, okI q) :
    Calls Try.prog 8 #[.slice x0.A x0.n x0.c] w fun e w' => e = .returned (.bool true) ∧ Below w.heap.size w w' := by
  obtain ⟨A1, n1, c1, l⟩ := x0
  obtain ⟨hR1, _⟩ := h0
  simp only at hR1 ⊢
  have hl := hR1.rows (sz := 11) (f := cI) (fun q => rfl) (by decide)
  subst hl
  have hcap := hR1.cap
  cases hla : lightL 60 l with
  | false =>
    go_enter Try.func8, Try.ntmps8
    go_wp2_with fail
    refine (light15_any _ _ _ l _ hR1).mono ?_
    rintro e w1 ⟨rfl, hb1⟩
    rw [hla]
    go_wp2_with (go_at_call 33; refine (awake15 _).mono ?_; rintro e w99 ⟨rfl, hb99⟩)
    go_ret
    exact ⟨rfl, bel_call hb1 hb99⟩
  | true =>
    obtain ⟨hn, hlim, hsml⟩ := lightL60 hla
    obtain ⟨i0, hi, hz0, hz1, hz2⟩ := info_parts Try.infoI
    go_enter Try.func8, Try.ntmps8
    go_wp2_with fail
    refine (light15_any _ _ _ l _ hR1).mono ?_
    rintro e w1 ⟨rfl, hb1⟩
    replace hR1 := hR1.below hb1
    have hB1 := hb1
    clear hb1
    rw [hla]
    clear hla
    have hBa : Below w1.heap.size w1 (w1.alloc (Obj.cells #[] 51)) := bel_alloc (Below.refl _ _) _
    have hown0 : (w1.alloc (Obj.cells #[] 51)).ownsRow w1.heap.size 51 11 (.slice (some ⟨w1.heap.size, 0, none⟩) 0 0) 0 [] := World.ownsRow_lit w1 #[] 0 (Nat.le_refl _) (by unfold maxLen; omega) rfl
    have hR := hR1.below hBa
    unfold maxLen at hcap
    obtain ⟨hca, hcb⟩ := hcap
    go_wp2_with (at_builtin; refine wpList_more (W := w1) _ rfl _ _ 22 rfl w1.heap.size 51 i0 (vI (noneI k0)) 11 96 Try.underlying22 hi hz0 hz1 hz2 rfl (by decide) _ 0 _ rfl hown0 _ _ _ _ rfl hR (flat_one l) ?d1 ?d2 hBa.size hBa ?_)
    case d1 => unfold maxLen; omega
    case d2 => omega
    intro v' w2 ho2 hg2 hm2 hb2 hsz2
    clear hown0 hR hBa hg2 hm2
    obtain ⟨A2, c2, rfl⟩ := own_form ho2
    have hQ : Rd w2 11 (.slice A2 l.length c2) l.length (l.flatMap cI) := by have := Rd.of_own ho2; simpa using this
    replace hR1 := hR1.below hb2
    have hB2 := bel_call hB1 hb2
    clear ho2 hb2 hB1
    go_wp2_with fail
    refine (mSort_any _ _ _ l _ hR1 (by omega) hlim).mono ?_
    rintro e w3 ⟨A3, c3, R, rfl, g1, g2, g3, g4, hb3⟩
    replace hR1 := hR1.below hb3
    replace hQ := hQ.below hb3
    have hB3 := bel_call hB2 hb3
    replace g4 := Lib.hid g4
    clear hb3 hB2
    go_wp2_with fail
    refine (refSort_any _ _ _ l _ hR1 (by omega) hlim).mono ?_
    rintro e w4 ⟨A4, c4, R4, rfl, g1', g2', g3', g4', hb4⟩
    obtain rfl : R = R4 := srt_uniq befI_swo g2 g2' (g3.symm.trans g3')
    replace hR1 := hR1.below hb4
    replace hQ := hQ.below hb4
    replace g1 := g1.below hb4
    have hB4 := bel_call hB3 hb4
    clear hb4 hB3 g4' g2 g2' g3 g3'
    go_wp2_with fail
    refine (sameI_any _ _ _ _ _ _ R R _ g1 g1').mono ?_
    rintro e w5 ⟨rfl, hb5⟩
    replace hR1 := hR1.below hb5
    replace hQ := hQ.below hb5
    have hB5 := bel_call hB4 hb5
    rw [decide_eq_true rfl]
    clear hb5 hB4 g1 g1' g4
    go_wp2_with fail
    refine (sameI_any _ _ _ _ _ _ l l _ hR1 hQ).mono ?_
    rintro e w6 ⟨rfl, hb6⟩
    have hB6 := bel_call hB5 hb6
    rw [decide_eq_true rfl]
    clear hR1 hQ hb6 hB5
    go_wp2_with (go_at_call 33; refine (awake15 _).mono ?_; rintro e w99 ⟨rfl, hb99⟩)
    go_ret
    exact ⟨rfl, bel_call hB6 hb99⟩
end Go.Proofs.Ytdefpphfbpkeaaa
