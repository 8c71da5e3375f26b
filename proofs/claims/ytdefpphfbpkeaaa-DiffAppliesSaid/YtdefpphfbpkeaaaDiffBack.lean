/-
  The law DiffBack.
-/
import Derived.Test.YtdefpphfbpkeaaaAppl3
import Derived.Test.YtdefpphfbpkeaaaDiffThree
namespace Go.Proofs.Ytdefpphfbpkeaaa
open Go.RowKit
set_option linter.unusedVariables false

theorem backL_len (l : List Ch) : (backL l).length = l.length := by unfold backL; simp
theorem app_post {a b : List It} {l : List Ch} {w w' : World} {e : Ending} (h : AppPost a l w e w') (ha : appL a l = some b) : ∃ A c, e = .returned (.tuple #[.slice A b.length c, .int .i64 0]) ∧ w'.ownsRow w.heap.size 51 11 (.slice A b.length c) b.length (b.flatMap cI) ∧ Below w.heap.size w w' := by
  unfold AppPost at h; rw [ha] at h; exact h
theorem app_calls {A1 A2 : Option Addr} {n1 c1 n2 c2 : Nat} {a b : List It} {l : List Ch} {w : World} (h1 : Rd w 11 (.slice A1 n1 c1) n1 (a.flatMap cI)) (h2 : Rd w 23 (.slice A2 n2 c2) n2 (l.flatMap cC)) (hn1 : n1 ≤ 40000) (hn2 : n2 ≤ 40000) (hr : risB a = true) (hcl : checkL l = 0) (hab : appL a l = some b) :
    Calls Try.prog 24 #[.slice A1 n1 c1, .slice A2 n2 c2] w fun e w' => ∃ A c, e = .returned (.tuple #[.slice A b.length c, .int .i64 0]) ∧ w'.ownsRow w.heap.size 51 11 (.slice A b.length c) b.length (b.flatMap cI) ∧ Below w.heap.size w w' :=
  (apply_any A1 A2 n1 c1 n2 c2 a l w h1 h2 hn1 hn2 hr hcl).mono fun e w' h => app_post h hab

set_option maxHeartbeats 2000000 in
theorem diffBack (x0 x1 : SlArg It) (w : World) (h0 : Rd w 11 (.slice x0.A x0.n x0.c) x0.n (x0.l.flatMap cI) ∧ ∀ q ∈ x0.l, okI q) (h1 : Rd w 11 (.slice x1.A x1.n x1.c) x1.n (x1.l.flatMap cI) ∧ ∀ q ∈ x1.l, okI q) :
    Calls Try.prog 7 #[.slice x0.A x0.n x0.c, .slice x1.A x1.n x1.c] w fun e w' => e = .returned (.bool true) ∧ Below w.heap.size w w' := by
  obtain ⟨A1, n1, c1, l⟩ := x0
  obtain ⟨A2, n2, c2, m⟩ := x1
  obtain ⟨hR1, _⟩ := h0
  obtain ⟨hR2, _⟩ := h1
  simp only at hR1 hR2 ⊢
  have hl1 := Lib.hid (hR1.rows (sz := 11) (f := cI) (fun q => rfl) (by decide))
  have hl2 := Lib.hid (hR2.rows (sz := 11) (f := cI) (fun q => rfl) (by decide))
  cases hla : lightL 30 l with
  | false =>
    go_enter Try.func7, Try.ntmps7
    go_wp2_with fail
    refine (light47_any _ _ _ l _ hR1).mono ?_
    rintro e w1 ⟨rfl, hb1⟩
    rw [hla]
    go_wp2_with (go_at_call 12; refine (awake47 _).mono ?_; rintro e w99 ⟨rfl, hb99⟩)
    go_ret
    exact ⟨rfl, bel_call hb1 hb99⟩
  | true =>
    cases hlb : lightL 30 m with
    | false =>
      go_enter Try.func7, Try.ntmps7
      go_wp2_with fail
      refine (light47_any _ _ _ l _ hR1).mono ?_
      rintro e w1 ⟨rfl, hb1⟩
      rw [hla]
      replace hR2 := hR2.below hb1
      go_wp2_with fail
      refine (light47_any _ _ _ m _ hR2).mono ?_
      rintro e w2 ⟨rfl, hb2⟩
      rw [hlb]
      have hB2 := bel_call hb1 hb2
      go_wp2_with (go_at_call 12; refine (awake47 _).mono ?_; rintro e w99 ⟨rfl, hb99⟩)
      go_ret
      exact ⟨rfl, bel_call hB2 hb99⟩
    | true =>
      have hm1 := lightL_len hla
      have hm2 := lightL_len hlb
      go_enter Try.func7, Try.ntmps7
      go_wp2_with fail
      refine (light47_any _ _ _ l _ hR1).mono ?_
      rintro e w1 ⟨rfl, hb1⟩
      replace hR1 := hR1.below hb1
      replace hR2 := hR2.below hb1
      have hB1 := hb1
      clear hb1
      rw [hla]
      go_wp2_with fail
      refine (light47_any _ _ _ m _ hR2).mono ?_
      rintro e w2 ⟨rfl, hb2⟩
      replace hR1 := hR1.below hb2
      replace hR2 := hR2.below hb2
      have hB2 := bel_call hB1 hb2
      clear hB1 hb2
      rw [hlb]
      clear hla hlb
      go_wp2_with fail
      refine (byKeys_any _ _ _ l _ hR1 (by have := hl1.out; omega)).mono ?_
      rintro e w3 ⟨B1, d1, rfl, ho1, hb3⟩
      replace hR1 := hR1.below hb3
      replace hR2 := hR2.below hb3
      have hB3 := bel_call hB2 hb3
      clear hB2 hb3
      have hQ1 := Rd.of_own ho1
      clear ho1
      go_wp2_with fail
      refine (byKeys_any _ _ _ m _ hR2 (by have := hl2.out; omega)).mono ?_
      rintro e w4 ⟨B2, d2, rfl, ho2, hb4⟩
      replace hQ1 := hQ1.below hb4
      have hB4 := bel_call hB3 hb4
      clear hB3 hb4
      have hQ2 := Rd.of_own ho2
      clear ho2 hR1 hR2 hl1 hl2
      have ra := byKeys_ok l
      have rb := byKeys_ok m
      have na := byKeys_len l
      have nb := byKeys_len m
      generalize byKeysL l = a at *
      generalize byKeysL m = b at *
      have hm4 : a.length ≤ 30 := by omega
      have hm5 : b.length ≤ 30 := by omega
      have kab := ofL_len ra rb
      have cab := Lib.hid (of_check ra rb)
      have mk := Lib.hid (of_makes ra rb)
      have bk := Lib.hid (of_back ra rb).1
      have bc := Lib.hid (of_back ra rb).2
      have kbb := backL_len (ofL a b)
      replace ra := Lib.hid ra
      replace rb := Lib.hid rb
      go_wp2_with fail
      refine (of_any _ _ _ _ _ _ a b _ hQ1 hQ2 (by omega) (by omega) ra.out rb.out).mono ?_
      rintro e w5 ⟨B4, d4, rfl, ho4, hb5⟩
      replace hQ1 := hQ1.below hb5
      replace hQ2 := hQ2.below hb5
      have hB5 := bel_call hB4 hb5
      clear hB4 hb5
      have hX := Rd.of_own ho4
      clear ho4
      generalize ofL a b = d at *
      go_wp2_with fail
      refine (app_calls hQ1 hX (by omega) (by omega) ra.out cab.out mk.out).mono ?_
      rintro e w6 ⟨B5, d5, rfl, ho5, hb6⟩
      replace hQ1 := hQ1.below hb6
      replace hQ2 := hQ2.below hb6
      replace hX := hX.below hb6
      have hB6 := bel_call hB5 hb6
      clear hB5 hb6
      have hY := Rd.of_own ho5
      clear ho5
      go_wp2_with fail
      refine (dBack_any _ _ _ d _ hX (by omega)).mono ?_
      rintro e w7 ⟨B6, d6, rfl, ho6, hb7⟩
      replace hQ1 := hQ1.below hb7
      replace hQ2 := hQ2.below hb7
      replace hY := hY.below hb7
      have hB7 := bel_call hB6 hb7
      clear hB6 hb7
      have hZ := Rd.of_own ho6
      clear ho6 hX
      go_wp2_with fail
      refine (app_calls hQ2 hZ (by omega) (by omega) rb.out bc.out bk.out).mono ?_
      rintro e w8 ⟨B7, d7, rfl, ho7, hb8⟩
      replace hQ1 := hQ1.below hb8
      replace hQ2 := hQ2.below hb8
      replace hY := hY.below hb8
      have hB8 := bel_call hB7 hb8
      clear hB7 hb8
      have hT := Rd.of_own ho7
      clear ho7 hZ mk bk cab bc
      go_wp2_with fail
      refine (sameI_any _ _ _ _ _ _ b b _ hY hQ2).mono ?_
      rintro e w9 ⟨rfl, hb9⟩
      replace hQ1 := hQ1.below hb9
      replace hT := hT.below hb9
      have hB9 := bel_call hB8 hb9
      clear hB8 hb9
      rw [decide_eq_true rfl]
      clear hY hQ2
      go_wp2_with fail
      refine (sameI_any _ _ _ _ _ _ a a _ hT hQ1).mono ?_
      rintro e w10 ⟨rfl, hb10⟩
      have hB10 := bel_call hB9 hb10
      clear hB9 hb10
      rw [decide_eq_true rfl]
      clear hT hQ1
      go_wp2_with (go_at_call 12; refine (awake47 _).mono ?_; rintro e w99 ⟨rfl, hb99⟩)
      go_ret
      exact ⟨rfl, bel_call hB10 hb99⟩
end Go.Proofs.Ytdefpphfbpkeaaa
