/-
  The law DiffOf.
-/
import Derived.Test.YtdefpphfbpkeaaaDiff10
import Derived.Test.YtdefpphfbpkeaaaItemOpen
namespace Go.Proofs.Ytdefpphfbpkeaaa
open Go.RowKit
set_option linter.unusedVariables false

theorem lightL_len {m : Nat} {l : List It} (h : lightL m l = true) : l.length ≤ m := by
  unfold lightL at h; simp at h; exact h.1

set_option maxHeartbeats 1000000 in
theorem of_no (A1 A2 : Option Addr) (n1 c1 n2 c2 : Nat) (a b : List It) (w : World) (h1 : Rd w 11 (.slice A1 n1 c1) n1 (a.flatMap cI)) (h2 : Rd w 11 (.slice A2 n2 c2) n2 (b.flatMap cI)) (hr : (risB a && risB b) = false) :
    Calls Try.prog 13 #[.slice A1 n1 c1, .slice A2 n2 c2] w fun e w' => e = .returned (.tuple #[.slice none 0 0, .int .i64 6]) ∧ Below w.heap.size w w' := by
  go_enter Try.func13, Try.ntmps13
  go_wp2_with fail
  go_step3
  go_wp2_with fail
  refine (rising_any _ _ _ a _ h1).mono ?_
  rintro e w1 ⟨rfl, hb1⟩
  cases hra : risB a with
  | false =>
    clear hr hra
    go_wp2
    try rw [Exit.noGoto_ret]
    go_ret2
    exact ⟨rfl, hb1⟩
  | true =>
    have hq2 := h2.below hb1
    have hrb : risB b = false := by rw [hra] at hr; exact hr
    clear hr hra
    go_wp2_with fail
    refine (rising_any _ _ _ b _ hq2).mono ?_
    rintro e w2 ⟨rfl, hb2⟩
    rw [hrb]
    have hbel0 := bel_call hb1 hb2
    clear hq2 hb1 hb2
    go_wp2
    try rw [Exit.noGoto_ret]
    go_ret2
    exact ⟨rfl, hbel0⟩

set_option maxHeartbeats 2000000 in
theorem diffOf (x0 x1 : SlArg It) (w : World) (h0 : Rd w 11 (.slice x0.A x0.n x0.c) x0.n (x0.l.flatMap cI) ∧ ∀ q ∈ x0.l, okI q) (h1 : Rd w 11 (.slice x1.A x1.n x1.c) x1.n (x1.l.flatMap cI) ∧ ∀ q ∈ x1.l, okI q) :
    Calls Try.prog 3 #[.slice x0.A x0.n x0.c, .slice x1.A x1.n x1.c] w fun e w' => e = .returned (.bool true) ∧ Below w.heap.size w w' := by
  obtain ⟨A1, n1, c1, a⟩ := x0
  obtain ⟨A2, n2, c2, b⟩ := x1
  obtain ⟨hR1, _⟩ := h0
  obtain ⟨hR2, _⟩ := h1
  simp only at hR1 hR2 ⊢
  have hl1 := hR1.rows (sz := 11) (f := cI) (fun q => rfl) (by decide)
  have hl2 := hR2.rows (sz := 11) (f := cI) (fun q => rfl) (by decide)
  by_cases hla : lightL 30 a = true
  · by_cases hlb : lightL 30 b = true
    · have hm1 := lightL_len hla
      have hm2 := lightL_len hlb
      go_enter Try.func3, Try.ntmps3
      replace hl1 := Lib.hid hl1
      replace hl2 := Lib.hid hl2
      go_wp2_with fail
      refine (light47_any _ _ _ a _ hR1).mono ?_
      rintro e w1 ⟨rfl, hb1⟩
      rw [hla]
      replace hR1 := hR1.below hb1
      replace hR2 := hR2.below hb1
      go_wp2_with fail
      refine (light47_any _ _ _ b _ hR2).mono ?_
      rintro e w2 ⟨rfl, hb2⟩
      rw [hlb]
      replace hR1 := hR1.below hb2
      replace hR2 := hR2.below hb2
      have hB2 := bel_call hb1 hb2
      clear hla hlb hb1 hb2
      go_wp2_with fail
      by_cases hr : (risB a && risB b) = true
      · obtain ⟨hra, hrb⟩ := Bool.and_eq_true_iff.1 hr
        refine (of_any _ _ _ _ _ _ a b _ hR1 hR2 (by have := hl1.out; omega) (by have := hl2.out; omega) hra hrb).mono ?_
        rintro e w3 ⟨A3, c3, rfl, hown3, hb3⟩
        have hR3 := Rd.of_own hown3
        replace hR1 := hR1.below hb3
        replace hR2 := hR2.below hb3
        have hB3 := bel_call hB2 hb3
        clear hown3 hb3 hB2 hr
        go_wp2_with fail
        refine (refRising_any _ _ _ a _ hR1).mono ?_
        rintro e w4 ⟨rfl, hb4⟩
        rw [hra]
        replace hR1 := hR1.below hb4
        replace hR2 := hR2.below hb4
        replace hR3 := hR3.below hb4
        have hB4 := bel_call hB3 hb4
        clear hb4 hB3
        go_wp2_with fail
        refine (refRising_any _ _ _ b _ hR2).mono ?_
        rintro e w5 ⟨rfl, hb5⟩
        rw [hrb]
        replace hR1 := hR1.below hb5
        replace hR2 := hR2.below hb5
        replace hR3 := hR3.below hb5
        have hB5 := bel_call hB4 hb5
        clear hb5 hB4
        go_wp2_with fail
        refine (of_any _ _ _ _ _ _ a a _ hR1 hR1 (by have := hl1.out; omega) (by have := hl1.out; omega) hra hra).mono ?_
        rintro e w6 ⟨A6, c6, rfl, hown6, hb6⟩
        have hs : Hid ((ofL a a).length = 0) := by show _ = _; rw [of_self hra]; rfl
        rw [hs.out]
        replace hR1 := hR1.below hb6
        replace hR2 := hR2.below hb6
        replace hR3 := hR3.below hb6
        have hB6 := bel_call hB5 hb6
        clear hown6 hb6 hB5
        go_wp2_with fail
        have hlen := Nat.le_trans (List.length_filterMap_le (fun z : It => chg z.k (findI a z.k) (findI b z.k)) (byKeysL (a ++ b))) (byKeys_len (a ++ b))
        replace hlen : (ofL a b).length ≤ a.length + b.length := by rw [of_ref hra hrb]; simpa [refOfL] using hlen
        refine (back47_any _ _ _ (ofL a b) _ hR3 (by omega)).mono ?_
        rintro e w7 ⟨A7, c7, rfl, hown7, hb7⟩
        have hR7 := Rd.of_own hown7
        replace hR1 := hR1.below hb7
        replace hR2 := hR2.below hb7
        replace hR3 := hR3.below hb7
        have hB7 := bel_call hB6 hb7
        clear hown7 hb7 hB6
        go_wp2_with fail
        refine (refOf47_any _ _ _ _ _ _ a b _ hR1 hR2 (by have := hl1.out; omega) (by have := hl2.out; omega)).mono ?_
        rintro e w8 ⟨A8, c8, rfl, hown8, hb8⟩
        have hR8 := Rd.of_own hown8
        replace hR3 := hR3.below hb8
        replace hR7 := hR7.below hb8
        have hB8 := bel_call hB7 hb8
        clear hown8 hb8 hB7 hR1 hR2
        go_wp2_with fail
        refine (same47_any _ _ _ _ _ _ _ _ _ hR7 hR8).mono ?_
        rintro e w9 ⟨rfl, hb9⟩
        rw [decide_eq_true (of_ref hra hrb)]
        replace hR3 := hR3.below hb9
        have hB9 := bel_call hB8 hb9
        clear hb9 hB8 hR7 hR8
        go_wp2_with fail
        refine (check_any _ _ _ (ofL a b) _ hR3).mono ?_
        rintro e w10 ⟨rfl, hb10⟩
        rw [of_check hra hrb]
        have hB10 := bel_call hB9 hb10
        clear hb10 hB9 hR3
        go_wp2_with (go_at_call 12; refine (awake47 _).mono ?_; rintro e w11 ⟨rfl, hb11⟩)
        go_ret
        exact ⟨rfl, bel_call hB10 hb11⟩
      · have hr' : (risB a && risB b) = false := by simpa using hr
        clear hr
        refine (of_no _ _ _ _ _ _ a b _ hR1 hR2 hr').mono ?_
        rintro e w3 ⟨rfl, hb3⟩
        replace hR1 := hR1.below hb3
        replace hR2 := hR2.below hb3
        have hB3 := bel_call hB2 hb3
        clear hb3 hB2
        go_wp2_with fail
        refine (refRising_any _ _ _ a _ hR1).mono ?_
        rintro e w4 ⟨rfl, hb4⟩
        replace hR2 := hR2.below hb4
        have hB4 := bel_call hB3 hb4
        clear hb4 hB3
        cases hra : risB a with
        | false =>
          clear hr' hra
          go_wp2_with (go_at_call 12; refine (awake47 _).mono ?_; rintro e w11 ⟨rfl, hb11⟩)
          go_ret
          exact ⟨rfl, bel_call hB4 hb11⟩
        | true =>
          have hrb : risB b = false := by rw [hra] at hr'; exact hr'
          clear hr' hra
          go_wp2_with fail
          refine (refRising_any _ _ _ b _ hR2).mono ?_
          rintro e w5 ⟨rfl, hb5⟩
          rw [hrb]
          have hB5 := bel_call hB4 hb5
          clear hb5 hB4
          go_wp2_with (go_at_call 12; refine (awake47 _).mono ?_; rintro e w11 ⟨rfl, hb11⟩)
          go_ret
          exact ⟨rfl, bel_call hB5 hb11⟩
    · have hlb' : lightL 30 b = false := by simpa using hlb
      clear hlb
      go_enter Try.func3, Try.ntmps3
      go_wp2_with fail
      refine (light47_any _ _ _ a _ hR1).mono ?_
      rintro e w1 ⟨rfl, hb1⟩
      rw [hla]
      replace hR2 := hR2.below hb1
      go_wp2_with fail
      refine (light47_any _ _ _ b _ hR2).mono ?_
      rintro e w2 ⟨rfl, hb2⟩
      rw [hlb']
      have hB2 := bel_call hb1 hb2
      go_wp2_with (go_at_call 12; refine (awake47 _).mono ?_; rintro e w11 ⟨rfl, hb11⟩)
      go_ret
      exact ⟨rfl, bel_call hB2 hb11⟩
  · have hla' : lightL 30 a = false := by simpa using hla
    clear hla
    go_enter Try.func3, Try.ntmps3
    go_wp2_with fail
    refine (light47_any _ _ _ a _ hR1).mono ?_
    rintro e w1 ⟨rfl, hb1⟩
    rw [hla']
    go_wp2_with (go_at_call 12; refine (awake47 _).mono ?_; rintro e w11 ⟨rfl, hb11⟩)
    go_ret
    exact ⟨rfl, bel_call hb1 hb11⟩
end Go.Proofs.Ytdefpphfbpkeaaa
