/-
  The walks: applying by the reference; applying that is refused.
-/
import Derived.Test.YtdefpphfbpkeaaaAppl2
import Derived.Test.YtdefpphfbpkeaaaRefThen
namespace Go.Proofs.Ytdefpphfbpkeaaa
open Go.RowKit
set_option linter.unusedVariables false

def errA (a : List It) (l : List Ch) : Int := if risB a then checkL l else 6
set_option maxHeartbeats 1000000 in
theorem apply_bad (A1 A2 : Option Addr) (n1 c1 n2 c2 : Nat) (a : List It) (l : List Ch) (w : World) (h1 : Rd w 11 (.slice A1 n1 c1) n1 (a.flatMap cI)) (h2 : Rd w 23 (.slice A2 n2 c2) n2 (l.flatMap cC)) (hb : (risB a && checkL l == 0) = false) :
    Calls Try.prog 24 #[.slice A1 n1 c1, .slice A2 n2 c2] w fun e w' => e = .returned (.tuple #[.slice none 0 0, .int .i64 (errA a l)]) ∧ Below w.heap.size w w' := by
  go_enter Try.func24, Try.ntmps24
  go_wp2_with fail
  refine (rising_any _ _ _ a _ h1).mono ?_
  rintro e w1 ⟨rfl, hb1⟩
  cases hr : risB a with
  | false =>
    have he : Hid (errA a l = 6) := by show _ = _; unfold errA; rw [hr]; rfl
    clear hb hr
    go_wp2
    go_ret2
    exact ⟨by rw [he.out]; rfl, hb1⟩
  | true =>
    have hm : (checkL l != 0) = true := by rw [hr] at hb; simpa using hb
    have he : Hid (errA a l = checkL l) := by show _ = _; unfold errA; rw [hr]; rfl
    have hq2 := h2.below hb1
    clear hb hr
    go_wp2_with fail
    refine (check_any _ _ _ l _ hq2).mono ?_
    rintro e w2 ⟨rfl, hb2⟩
    generalize checkL l = r at *
    have hbel0 := bel_call hb1 hb2
    clear hq2 hb1 hb2
    go_wp2
    go_ret2
    exact ⟨by rw [he.out]; rfl, hbel0⟩
set_option maxHeartbeats 1000000 in
theorem refApply_bad (A1 A2 : Option Addr) (n1 c1 n2 c2 : Nat) (a : List It) (l : List Ch) (w : World) (h1 : Rd w 11 (.slice A1 n1 c1) n1 (a.flatMap cI)) (h2 : Rd w 23 (.slice A2 n2 c2) n2 (l.flatMap cC)) (hb : (risB a && checkL l == 0) = false) :
    Calls Try.prog 25 #[.slice A1 n1 c1, .slice A2 n2 c2] w fun e w' => e = .returned (.tuple #[.slice none 0 0, .int .i64 (errA a l)]) ∧ Below w.heap.size w w' := by
  go_enter Try.func25, Try.ntmps25
  go_wp2_with fail
  refine (refRising_any _ _ _ a _ h1).mono ?_
  rintro e w1 ⟨rfl, hb1⟩
  cases hr : risB a with
  | false =>
    have he : Hid (errA a l = 6) := by show _ = _; unfold errA; rw [hr]; rfl
    clear hb hr
    go_wp2
    go_ret2
    exact ⟨by rw [he.out]; rfl, hb1⟩
  | true =>
    have hm : (checkL l != 0) = true := by rw [hr] at hb; simpa using hb
    have he : Hid (errA a l = checkL l) := by show _ = _; unfold errA; rw [hr]; rfl
    have hq2 := h2.below hb1
    clear hb hr
    go_wp2_with fail
    refine (refCheck_any _ _ _ l _ hq2).mono ?_
    rintro e w2 ⟨rfl, hb2⟩
    generalize checkL l = r at *
    have hbel0 := bel_call hb1 hb2
    clear hq2 hb1 hb2
    go_wp2
    go_ret2
    exact ⟨by rw [he.out]; rfl, hbel0⟩

/-- What applying by the reference hands back: maybe the list itself. -/
def RefAppPost (a : List It) (l : List Ch) (w : World) (e : Ending) (w' : World) : Prop :=
  match appL a l with
  | some b => ∃ A c, e = .returned (.tuple #[.slice A b.length c, .int .i64 0]) ∧ Rd w' 11 (.slice A b.length c) b.length (b.flatMap cI) ∧ Below w.heap.size w w'
  | none => e = .returned (.tuple #[.slice none 0 0, .int .i64 10]) ∧ Below w.heap.size w w'

set_option maxRecDepth 20000 in
set_option maxHeartbeats 4000000 in
theorem refApply_any (A1 A2 : Option Addr) (n1 c1 n2 c2 : Nat) (a : List It) (l : List Ch) (w : World) (h1 : Rd w 11 (.slice A1 n1 c1) n1 (a.flatMap cI)) (h2 : Rd w 23 (.slice A2 n2 c2) n2 (l.flatMap cC)) (hn1 : n1 ≤ 40000) (hn2 : n2 ≤ 40000) (hr : risB a = true) (hcl : checkL l = 0) :
    Calls Try.prog 25 #[.slice A1 n1 c1, .slice A2 n2 c2] w (RefAppPost a l w) := by
  have hl1 := h1.rows (sz := 11) (f := cI) (fun q => rfl) (by decide)
  have hl2 := h2.rows (sz := 23) (f := cC) (fun q => rfl) (by decide)
  have hcap1 := h1.cap
  have hcap2 := h2.cap
  unfold maxLen at hcap1 hcap2
  obtain ⟨hca1, hcb1⟩ := hcap1
  obtain ⟨hca2, hcb2⟩ := hcap2
  subst hl1 hl2
  go_enter Try.func25, Try.ntmps25
  go_wp2_with fail
  refine (refRising_any _ _ _ a _ h1).mono ?_
  rintro e w1 ⟨rfl, hb1⟩
  have hK := Lib.hid (risB_ris hr)
  rw [hr]
  have h1' := h1.below hb1
  have h2' := h2.below hb1
  go_wp2_with fail
  refine (refCheck_any _ _ _ l _ h2').mono ?_
  rintro e w2 ⟨rfl, hb2⟩
  rw [hcl]
  have hR1 := h1'.below hb2
  have hB2 := bel_call hb1 hb2
  clear h1' h2' hb1 hb2 hr hcl h1
  go_wp2
  go_loopw [0, 7] (fun v i wr => ∃ (j : Nat) (A : Option Addr) (c : Nat) (L : List It), j ≤ l.length ∧ i = .int .i64 j ∧ v = .slice A L.length c ∧ Rd wr 11 (.slice A L.length c) L.length (L.flatMap cI) ∧ L.length ≤ 40000 + j ∧ Hid (appL a l = appL L (l.drop j)) ∧ Hid (RisK (keysL L)) ∧ Below w.heap.size w wr) (fun _ i _ => l.length - (intOf i).toNat)
  case atStart => exact ⟨0, _, _, a, Nat.zero_le _, rfl, rfl, hR1, by omega, rfl, hK, hB2⟩
  case round =>
    obtain ⟨j, A, c, L, hj, rfl, rfl, hRL, hLn, hch, hris, hbel⟩ := hrel
    by_cases hlt : j < l.length
    · have hji : (j : Int) < l.length := by omega
      have hj0 : (0 : Int) ≤ (j : Int) := by omega
      obtain ⟨b, off, rfl, hb, hx⟩ := (h2.below hbel).changes hlt
      have hxi := hx j hlt
      have hst := app_drop hlt L
      obtain ⟨q0, q1, q2, q3, q4⟩ := ch_parts hxi
      clear hx hR1 hB2
      go_wp2_with fail
      refine (refFindI_any _ _ _ L l[j].o.k _ hRL).mono ?_
      rintro e w3 ⟨rfl, hb3⟩
      have hRA := hRL.below hb3
      have hxA := chAt_later hxi hb3
      have hbelA := bel_call hbel hb3
      clear hRL hxi hb3 hbel q0 q1 q2 q3 q4 hb
      have hRB := hRA.alloc (.cells (cI (itOr (findI L l[j].o.k))).toArray 51)
      have hxB := chAt_later hxA (bel_alloc (Below.refl _ w3) (.cells (cI (itOr (findI L l[j].o.k))).toArray 51))
      have hiB := itAt_new w3 (itOr (findI L l[j].o.k)) 51 w3.heap.size rfl
      have hbelB := bel_alloc hbelA (.cells (cI (itOr (findI L l[j].o.k))).toArray 51)
      obtain ⟨q0, q1, q2, q3, q4⟩ := ch_parts hxB
      clear hRA hxA hbelA
      by_cases h1 : l[j].kd = 1
      · have hb1 : (l[j].kd == 1) = true := by simpa using h1
        have h2' : l[j].kd ≠ 2 := by omega
        have hb2 : (l[j].kd == 2) = false := by simpa using h2'
        cases hs : findI L l[j].o.k with
        | none =>
          have hq := Lib.hid (show fitsB L l[j] = true by unfold fitsB; rw [if_pos h1, hs]; rfl)
          rw [hs] at hRB hxB hiB hbelB q0 q1 q2 q3 q4
          clear hs h1
          have hnx := Lib.hid (show appL a l = appL (stepV L l[j]) (l.drop (j + 1)) by rw [hch.out, hst, hq.out]; rfl)
          clear hst hch hq
          go_wp2
          go_quiet (fail)
          have hRC := hRB.below (below_drews (Below.refl _ _) nq)
          have hxC := chAt_later hxB (below_drews (Below.refl _ _) nq)
          have hbelC := below_drews hbelB nq
          clear hRB hxB hiB hbelB q0 q1 q2 q3 q4
          generalize (w3.alloc (Obj.cells (cI (itOr none)).toArray 51)).drewN nq = w4 at *
          have hwl := wo_len L l[j].o.k
          obtain ⟨q0, q1, q2, q3, q4⟩ := ch_parts hxC
          go_wp2_with fail
          refine (refWithout_any _ _ _ L l[j].o.k _ hRC (by omega)).mono ?_
          rintro e w5 ⟨A4, c4, rfl, ho4, hb4⟩
          have hR4 := Rd.of_own ho4
          have hxD := chAt_later hxC hb4
          have hbelD := bel_call hbelC hb4
          have hrw := Lib.hid (wo_ris l[j].o.k hris.out)
          clear hRC hxC hbelC hb4 ho4 q0 q1 q2 q3 q4
          obtain ⟨q0, q1, q2, q3, q4⟩ := ch_parts hxD
          have hfin := Lib.hid (show stepV L l[j] = putI (woL L l[j].o.k) l[j].n by unfold stepV; rw [if_neg h2', putV_putI _ hrw.out])
          clear h2'
          generalize woL L l[j].o.k = L2 at *
          have hpl := put_len L2 l[j].n
          have hrp := Lib.hid (put_ris l[j].n hrw.out)
          go_wp2_with fail
          refine (put25_any _ _ _ L2 l[j].n _ hR4 (by omega)).mono ?_
          rintro e w6 ⟨A5, c5, rfl, ho5, hb5⟩
          have hR5 := Rd.of_own ho5
          have hbelE := bel_call hbelD hb5
          clear hR4 hxD hbelD hb5 ho5 q0 q1 q2 q3 q4
          generalize putI L2 l[j].n = L3 at *
          go_wp2
          go_roundw
          case rel => exact ⟨j + 1, A5, c5, L3, by omega, by go_num, rfl, hR5, by omega, by have := hnx.out; rw [hfin.out] at this; exact this, hrp, hbelE⟩
          case measure => simp [intOf]; omega
        | some y =>
          have hq := Lib.hid (show fitsB L l[j] = false by unfold fitsB; rw [if_pos h1, hs]; rfl)
          rw [hs] at hRB hxB hiB hbelB q0 q1 q2 q3 q4
          clear hs h1 h2'
          have hfin := Lib.hid (show appL a l = none by rw [hch.out, hst, hq.out]; rfl)
          clear hst hch hq
          go_wp2
          go_quiet (fail)
          have hRC := hRB.below (below_drews (Below.refl _ _) nq)
          have hxC := chAt_later hxB (below_drews (Below.refl _ _) nq)
          have hbelC := below_drews hbelB nq
          clear hRB hxB hiB hbelB q0 q1 q2 q3 q4
          generalize (w3.alloc (Obj.cells (cI (itOr (some y))).toArray 51)).drewN nq = w4 at *
          go_wp2
          go_ret2
          unfold RefAppPost
          rw [hfin.out]
          exact ⟨rfl, hbelC⟩
      · have hb1 : (l[j].kd == 1) = false := by simpa using h1
        cases hs : findI L l[j].o.k with
        | none =>
          have hq := Lib.hid (show fitsB L l[j] = false by unfold fitsB; rw [if_neg h1, hs]; rfl)
          rw [hs] at hRB hxB hiB hbelB q0 q1 q2 q3 q4
          clear hs h1
          have hfin := Lib.hid (show appL a l = none by rw [hch.out, hst, hq.out]; rfl)
          clear hst hch hq
          go_wp2
          go_quiet (fail)
          have hRC := hRB.below (below_drews (Below.refl _ _) nq)
          have hxC := chAt_later hxB (below_drews (Below.refl _ _) nq)
          have hbelC := below_drews hbelB nq
          clear hRB hxB hiB hbelB q0 q1 q2 q3 q4
          generalize (w3.alloc (Obj.cells (cI (itOr none)).toArray 51)).drewN nq = w4 at *
          go_wp2
          go_ret2
          unfold RefAppPost
          rw [hfin.out]
          exact ⟨rfl, hbelC⟩
        | some y =>
          rw [hs] at hRB hxB hiB hbelB q0 q1 q2 q3 q4
          by_cases hy : y = l[j].o
          · have hq := Lib.hid (show fitsB L l[j] = true by unfold fitsB; rw [if_neg h1, hs, hy]; simp)
            have hyb : decide (itOr (some y) = l[j].o) = true := decide_eq_true hy
            clear hs h1 hy
            by_cases h2' : l[j].kd = 2
            · have hb2 : (l[j].kd == 2) = true := by simpa using h2'
              have hnx := Lib.hid (show appL a l = appL (stepV L l[j]) (l.drop (j + 1)) by rw [hch.out, hst, hq.out]; rfl)
              clear hst hch hq
              go_wp2
              go_quiet (fail)
              have hRC := hRB.below (below_drews (Below.refl _ _) nq)
              have hxC := chAt_later hxB (below_drews (Below.refl _ _) nq)
              have hbelC := below_drews hbelB nq
              clear hRB hxB hiB hbelB q0 q1 q2 q3 q4
              generalize (w3.alloc (Obj.cells (cI (itOr (some y))).toArray 51)).drewN nq = w4 at *
              have hwl := wo_len L l[j].o.k
              obtain ⟨q0, q1, q2, q3, q4⟩ := ch_parts hxC
              go_wp2_with fail
              refine (refWithout_any _ _ _ L l[j].o.k _ hRC (by omega)).mono ?_
              rintro e w5 ⟨A4, c4, rfl, ho4, hb4⟩
              have hR4 := Rd.of_own ho4
              have hxD := chAt_later hxC hb4
              have hbelD := bel_call hbelC hb4
              have hrw := Lib.hid (wo_ris l[j].o.k hris.out)
              clear hRC hxC hbelC hb4 ho4 q0 q1 q2 q3 q4
              obtain ⟨q0, q1, q2, q3, q4⟩ := ch_parts hxD
              have hfin := Lib.hid (show stepV L l[j] = woL L l[j].o.k by unfold stepV; rw [if_pos h2'])
              rw [h2'] at q0
              clear h2'
              generalize woL L l[j].o.k = L2 at *
              go_wp2
              go_roundw
              case rel => exact ⟨j + 1, A4, c4, L2, by omega, by go_num, rfl, hR4, by omega, by have := hnx.out; rw [hfin.out] at this; exact this, hrw, hbelD⟩
              case measure => simp [intOf]; omega
            · have hb2 : (l[j].kd == 2) = false := by simpa using h2'
              have hnx := Lib.hid (show appL a l = appL (stepV L l[j]) (l.drop (j + 1)) by rw [hch.out, hst, hq.out]; rfl)
              clear hst hch hq
              go_wp2
              go_quiet (fail)
              have hRC := hRB.below (below_drews (Below.refl _ _) nq)
              have hxC := chAt_later hxB (below_drews (Below.refl _ _) nq)
              have hbelC := below_drews hbelB nq
              clear hRB hxB hiB hbelB q0 q1 q2 q3 q4
              generalize (w3.alloc (Obj.cells (cI (itOr (some y))).toArray 51)).drewN nq = w4 at *
              have hwl := wo_len L l[j].o.k
              obtain ⟨q0, q1, q2, q3, q4⟩ := ch_parts hxC
              go_wp2_with fail
              refine (refWithout_any _ _ _ L l[j].o.k _ hRC (by omega)).mono ?_
              rintro e w5 ⟨A4, c4, rfl, ho4, hb4⟩
              have hR4 := Rd.of_own ho4
              have hxD := chAt_later hxC hb4
              have hbelD := bel_call hbelC hb4
              have hrw := Lib.hid (wo_ris l[j].o.k hris.out)
              clear hRC hxC hbelC hb4 ho4 q0 q1 q2 q3 q4
              obtain ⟨q0, q1, q2, q3, q4⟩ := ch_parts hxD
              have hfin := Lib.hid (show stepV L l[j] = putI (woL L l[j].o.k) l[j].n by unfold stepV; rw [if_neg h2', putV_putI _ hrw.out])
              clear h2'
              generalize woL L l[j].o.k = L2 at *
              have hpl := put_len L2 l[j].n
              have hrp := Lib.hid (put_ris l[j].n hrw.out)
              go_wp2_with fail
              refine (put25_any _ _ _ L2 l[j].n _ hR4 (by omega)).mono ?_
              rintro e w6 ⟨A5, c5, rfl, ho5, hb5⟩
              have hR5 := Rd.of_own ho5
              have hbelE := bel_call hbelD hb5
              clear hR4 hxD hbelD hb5 ho5 q0 q1 q2 q3 q4
              generalize putI L2 l[j].n = L3 at *
              go_wp2
              go_roundw
              case rel => exact ⟨j + 1, A5, c5, L3, by omega, by go_num, rfl, hR5, by omega, by have := hnx.out; rw [hfin.out] at this; exact this, hrp, hbelE⟩
              case measure => simp [intOf]; omega
          · have hq := Lib.hid (show fitsB L l[j] = false by unfold fitsB; rw [if_neg h1, hs]; simpa using hy)
            have hyb : decide (itOr (some y) = l[j].o) = false := decide_eq_false hy
            clear hs h1 hy
            have hfin := Lib.hid (show appL a l = none by rw [hch.out, hst, hq.out]; rfl)
            clear hst hch hq
            go_wp2
            go_quiet (fail)
            have hRC := hRB.below (below_drews (Below.refl _ _) nq)
            have hxC := chAt_later hxB (below_drews (Below.refl _ _) nq)
            have hbelC := below_drews hbelB nq
            clear hRB hxB hiB hbelB q0 q1 q2 q3 q4
            generalize (w3.alloc (Obj.cells (cI (itOr (some y))).toArray 51)).drewN nq = w4 at *
            go_wp2
            go_ret2
            unfold RefAppPost
            rw [hfin.out]
            exact ⟨rfl, hbelC⟩
    · obtain rfl : j = l.length := by omega
      have hfin := Lib.hid (show appL a l = some L by rw [hch.out, List.drop_length]; rfl)
      clear hch hR1 hB2
      go_wp2
      go_ret2
      unfold RefAppPost
      rw [hfin.out]
      exact ⟨A, c, rfl, hRL, hbel⟩
end Go.Proofs.Ytdefpphfbpkeaaa
