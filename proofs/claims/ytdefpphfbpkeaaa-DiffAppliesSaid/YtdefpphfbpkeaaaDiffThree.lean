/-
  The law DiffThree.
-/
import Derived.Test.YtdefpphfbpkeaaaThen
import Derived.Test.YtdefpphfbpkeaaaDiffOf
namespace Go.Proofs.Ytdefpphfbpkeaaa
open Go.RowKit
set_option linter.unusedVariables false

theorem ofL_len {a b : List It} (ha : risB a = true) (hb : risB b = true) : (ofL a b).length ≤ a.length + b.length := by
  have := Nat.le_trans (List.length_filterMap_le (fun z : It => chg z.k (findI a z.k) (findI b z.k)) (byKeysL (a ++ b))) (byKeys_len (a ++ b))
  rw [of_ref ha hb]
  simpa [refOfL] using this
theorem byKeys_ok (l : List It) : risB (byKeysL l) = true := ris_risB (byKeys_ris l)
theorem then_out {l m z y : List Ch} {r : Int} (h : ThenOut l m z r) (hy : thenL l m = some y) : z = y ∧ r = 0 := by
  rcases h with ⟨h1, h2⟩ | ⟨h1, _, _⟩
  · rw [h1] at hy; exact ⟨Option.some.inj hy, h2⟩
  · rw [h1] at hy; cases hy

set_option maxHeartbeats 2000000 in
theorem diffThree (x0 x1 x2 : SlArg It) (w : World) (h0 : Rd w 11 (.slice x0.A x0.n x0.c) x0.n (x0.l.flatMap cI) ∧ ∀ q ∈ x0.l, okI q) (h1 : Rd w 11 (.slice x1.A x1.n x1.c) x1.n (x1.l.flatMap cI) ∧ ∀ q ∈ x1.l, okI q) (h2 : Rd w 11 (.slice x2.A x2.n x2.c) x2.n (x2.l.flatMap cI) ∧ ∀ q ∈ x2.l, okI q) :
    Calls Try.prog 5 #[.slice x0.A x0.n x0.c, .slice x1.A x1.n x1.c, .slice x2.A x2.n x2.c] w fun e w' => e = .returned (.bool true) ∧ Below w.heap.size w w' := by
  obtain ⟨A1, n1, c1, l⟩ := x0
  obtain ⟨A2, n2, c2, m⟩ := x1
  obtain ⟨A3, n3, c3, n⟩ := x2
  obtain ⟨hR1, _⟩ := h0
  obtain ⟨hR2, _⟩ := h1
  obtain ⟨hR3, _⟩ := h2
  simp only at hR1 hR2 hR3 ⊢
  have hl1 := Lib.hid (hR1.rows (sz := 11) (f := cI) (fun q => rfl) (by decide))
  have hl2 := Lib.hid (hR2.rows (sz := 11) (f := cI) (fun q => rfl) (by decide))
  have hl3 := Lib.hid (hR3.rows (sz := 11) (f := cI) (fun q => rfl) (by decide))
  cases hla : lightL 30 l with
  | false =>
    go_enter Try.func5, Try.ntmps5
    go_wp2_with fail
    refine (light47_any _ _ _ l _ hR1).mono ?_
    rintro e w1 ⟨rfl, hb1⟩
    rw [hla]
    go_wp2_with (go_at_call 12; refine (awake47 _).mono ?_; rintro e w99 ⟨rfl, hb99⟩)
    go_ret
    exact ⟨rfl, bel_call hb1 hb99⟩
  | true =>
    cases hlb : lightL 30 m with
    | false =>
      go_enter Try.func5, Try.ntmps5
      go_wp2_with fail
      refine (light47_any _ _ _ l _ hR1).mono ?_
      rintro e w1 ⟨rfl, hb1⟩
      rw [hla]
      replace hR2 := hR2.below hb1
      go_wp2_with fail
      refine (light47_any _ _ _ m _ hR2).mono ?_
      rintro e w2 ⟨rfl, hb2⟩
      rw [hlb]
      have hB2 := bel_call hb1 hb2
      go_wp2_with (go_at_call 12; refine (awake47 _).mono ?_; rintro e w99 ⟨rfl, hb99⟩)
      go_ret
      exact ⟨rfl, bel_call hB2 hb99⟩
    | true =>
      cases hlc : lightL 30 n with
      | false =>
        go_enter Try.func5, Try.ntmps5
        go_wp2_with fail
        refine (light47_any _ _ _ l _ hR1).mono ?_
        rintro e w1 ⟨rfl, hb1⟩
        rw [hla]
        replace hR2 := hR2.below hb1
        replace hR3 := hR3.below hb1
        go_wp2_with fail
        refine (light47_any _ _ _ m _ hR2).mono ?_
        rintro e w2 ⟨rfl, hb2⟩
        rw [hlb]
        replace hR3 := hR3.below hb2
        have hB2 := bel_call hb1 hb2
        go_wp2_with fail
        refine (light47_any _ _ _ n _ hR3).mono ?_
        rintro e w3 ⟨rfl, hb3⟩
        rw [hlc]
        have hB3 := bel_call hB2 hb3
        go_wp2_with (go_at_call 12; refine (awake47 _).mono ?_; rintro e w99 ⟨rfl, hb99⟩)
        go_ret
        exact ⟨rfl, bel_call hB3 hb99⟩
      | true =>
        have hm1 := lightL_len hla
        have hm2 := lightL_len hlb
        have hm3 := lightL_len hlc
        go_enter Try.func5, Try.ntmps5
        go_wp2_with fail
        refine (light47_any _ _ _ l _ hR1).mono ?_
        rintro e w1 ⟨rfl, hb1⟩
        replace hR1 := hR1.below hb1
        replace hR2 := hR2.below hb1
        replace hR3 := hR3.below hb1
        have hB1 := hb1
        clear hb1
        rw [hla]
        go_wp2_with fail
        refine (light47_any _ _ _ m _ hR2).mono ?_
        rintro e w2 ⟨rfl, hb2⟩
        replace hR1 := hR1.below hb2
        replace hR2 := hR2.below hb2
        replace hR3 := hR3.below hb2
        have hB2 := bel_call hB1 hb2
        clear hB1 hb2
        rw [hlb]
        go_wp2_with fail
        refine (light47_any _ _ _ n _ hR3).mono ?_
        rintro e w3 ⟨rfl, hb3⟩
        replace hR1 := hR1.below hb3
        replace hR2 := hR2.below hb3
        replace hR3 := hR3.below hb3
        have hB3 := bel_call hB2 hb3
        clear hB2 hb3
        rw [hlc]
        clear hla hlb hlc
        go_wp2_with fail
        refine (byKeys_any _ _ _ l _ hR1 (by have := hl1.out; omega)).mono ?_
        rintro e w4 ⟨B1, d1, rfl, ho1, hb4⟩
        replace hR2 := hR2.below hb4
        replace hR3 := hR3.below hb4
        have hB4 := bel_call hB3 hb4
        clear hB3 hb4
        have hQ1 := Rd.of_own ho1
        clear ho1
        go_wp2_with fail
        refine (byKeys_any _ _ _ m _ hR2 (by have := hl2.out; omega)).mono ?_
        rintro e w5 ⟨B2, d2, rfl, ho2, hb5⟩
        replace hR3 := hR3.below hb5
        replace hQ1 := hQ1.below hb5
        have hB5 := bel_call hB4 hb5
        clear hB4 hb5
        have hQ2 := Rd.of_own ho2
        clear ho2
        go_wp2_with fail
        refine (byKeys_any _ _ _ n _ hR3 (by have := hl3.out; omega)).mono ?_
        rintro e w6 ⟨B3, d3, rfl, ho3, hb6⟩
        replace hQ1 := hQ1.below hb6
        replace hQ2 := hQ2.below hb6
        have hB6 := bel_call hB5 hb6
        clear hB5 hb6
        have hQ3 := Rd.of_own ho3
        clear ho3 hR1 hR2 hR3 hl1 hl2 hl3
        have ra := byKeys_ok l
        have rb := byKeys_ok m
        have rc := byKeys_ok n
        have na := byKeys_len l
        have nb := byKeys_len m
        have nc := byKeys_len n
        generalize byKeysL l = a at *
        generalize byKeysL m = b at *
        generalize byKeysL n = c at *
        have hm4 : a.length ≤ 30 := by omega
        have hm5 : b.length ≤ 30 := by omega
        have hm6 : c.length ≤ 30 := by omega
        have kab := ofL_len ra rb
        have kbc := ofL_len rb rc
        have kac := ofL_len ra rc
        have cab := Lib.hid (of_check ra rb)
        have cbc := Lib.hid (of_check rb rc)
        have h3 := Lib.hid (then_three ra rb rc)
        replace ra := Lib.hid ra
        replace rb := Lib.hid rb
        replace rc := Lib.hid rc
        go_wp2_with fail
        refine (of_any _ _ _ _ _ _ a b _ hQ1 hQ2 (by omega) (by omega) ra.out rb.out).mono ?_
        rintro e w7 ⟨B4, d4, rfl, ho4, hb7⟩
        replace hQ1 := hQ1.below hb7
        replace hQ2 := hQ2.below hb7
        replace hQ3 := hQ3.below hb7
        have hB7 := bel_call hB6 hb7
        clear hB6 hb7
        have hX := Rd.of_own ho4
        clear ho4
        go_wp2_with fail
        refine (of_any _ _ _ _ _ _ b c _ hQ2 hQ3 (by omega) (by omega) rb.out rc.out).mono ?_
        rintro e w8 ⟨B5, d5, rfl, ho5, hb8⟩
        replace hQ1 := hQ1.below hb8
        replace hQ3 := hQ3.below hb8
        replace hX := hX.below hb8
        have hB8 := bel_call hB7 hb8
        clear hB7 hb8
        have hY := Rd.of_own ho5
        clear ho5
        go_wp2_with fail
        refine (of_any _ _ _ _ _ _ a c _ hQ1 hQ3 (by omega) (by omega) ra.out rc.out).mono ?_
        rintro e w9 ⟨B6, d6, rfl, ho6, hb9⟩
        replace hX := hX.below hb9
        replace hY := hY.below hb9
        have hB9 := bel_call hB8 hb9
        clear hB8 hb9
        have hZ := Rd.of_own ho6
        clear ho6 hQ1 hQ2 hQ3
        go_wp2_with fail
        refine (then_any _ _ _ _ _ _ (ofL a b) (ofL b c) _ hX hY (by omega) (by omega) cab.out cbc.out).mono ?_
        rintro e w10 ⟨B7, d7, t, r, rfl, hto, ho7, hb10, _⟩
        replace hZ := hZ.below hb10
        have hB10 := bel_call hB9 hb10
        clear hB9 hb10
        obtain ⟨rfl, rfl⟩ := then_out hto h3.out
        have hT := Rd.of_own ho7
        clear ho7 hX hY hto h3
        go_wp2_with fail
        refine (back47_any _ _ _ (ofL a c) _ hT (by omega)).mono ?_
        rintro e w11 ⟨B8, d8, rfl, ho8, hb11⟩
        replace hZ := hZ.below hb11
        have hB11 := bel_call hB10 hb11
        clear hB10 hb11
        have hU := Rd.of_own ho8
        clear ho8 hT
        go_wp2_with fail
        refine (back47_any _ _ _ (ofL a c) _ hZ (by omega)).mono ?_
        rintro e w12 ⟨B9, d9, rfl, ho9, hb12⟩
        replace hU := hU.below hb12
        have hB12 := bel_call hB11 hb12
        clear hB11 hb12
        have hV := Rd.of_own ho9
        clear ho9 hZ
        go_wp2_with fail
        refine (same47_any _ _ _ _ _ _ _ _ _ hU hV).mono ?_
        rintro e w13 ⟨rfl, hb13⟩
        have hB13 := bel_call hB12 hb13
        clear hB12 hb13
        rw [decide_eq_true rfl]
        clear hU hV
        go_wp2_with (go_at_call 12; refine (awake47 _).mono ?_; rintro e w99 ⟨rfl, hb99⟩)
        go_ret
        exact ⟨rfl, bel_call hB13 hb99⟩
end Go.Proofs.Ytdefpphfbpkeaaa
