/-
  The walks: the program's search of a key; does a change fit.
-/
import Derived.Test.YtdefpphfbpkeaaaAppl1
import Derived.Test.YtdefpphfbpkeaaaDiff9
namespace Go.Proofs.Ytdefpphfbpkeaaa
open Go.RowKit
set_option linter.unusedVariables false

theorem there_bel {w w1 : World} {b o n : Nat} (h : w.there b o n) (hb : Below w.heap.size w w1) (hlt : b < w.heap.size) : w1.there b o n := fun j hj => by
  rw [hb.cell (p := ⟨b, o + j, none⟩) hlt, hb.frozen (p := ⟨b, o + j, none⟩) hlt]
  exact h j hj
set_option maxHeartbeats 1000000 in
set_option maxRecDepth 20000 in
theorem findD_any (A : Option Addr) (n c : Nat) (l : List It) (k : Ky) (w : World) (h : Rd w 11 (.slice A n c) n (l.flatMap cI)) :
    Calls Try.prog 60 #[.slice A n c, vK k] w fun e w' => e = .returned (.tuple #[vI (itOr (findI l k)), .bool (findI l k).isSome]) ∧ Below w.heap.size w w' := by
  have hl := h.rows (sz := 11) (f := cI) (fun q => rfl) (by decide)
  have hcap := h.cap
  unfold maxLen at hcap
  obtain ⟨hca, hcb⟩ := hcap
  subst hl
  go_enter Try.func60, Try.ntmps60
  go_wp2
  have hB : Below w.heap.size w ((w.alloc (Obj.cells (cK k).toArray 47)).alloc (Obj.cells (cI (noneI k0)).toArray 51)) := bel_alloc (bel_alloc (Below.refl _ _) _) _
  have hk0 : kyAt ((w.alloc (Obj.cells (cK k).toArray 47)).alloc (Obj.cells (cI (noneI k0)).toArray 51)) w.heap.size 0 = some k := by go_simp
  have ht0 : ((w.alloc (Obj.cells (cK k).toArray 47)).alloc (Obj.cells (cI (noneI k0)).toArray 51)).there (w.heap.size + 1) 0 11 := by go_simp
  show Code.wp _ _ _ _ ((w.alloc (Obj.cells (cK k).toArray 47)).alloc (Obj.cells (cI (noneI k0)).toArray 51))
  generalize ((w.alloc (Obj.cells (cK k).toArray 47)).alloc (Obj.cells (cI (noneI k0)).toArray 51)) = W at *
  go_loopw [10] (fun i wr => ∃ j : Nat, j ≤ l.length ∧ i = .int .i64 j ∧ Below w.heap.size w wr ∧ kyAt wr w.heap.size 0 = some k ∧ wr.there (w.heap.size + 1) 0 11 ∧ Hid (findI (l.take j) k = none)) (fun i _ => l.length - (intOf i).toNat)
  case atStart => exact ⟨0, Nat.zero_le _, rfl, hB, hk0, ht0, rfl⟩
  case round =>
    obtain ⟨j, hj, rfl, hbel, hk, hth, hno⟩ := hrel
    clear hk0 ht0 hB
    by_cases hlt : j < l.length
    · have hji : (j : Int) < l.length := by omega
      have hj0 : (0 : Int) ≤ (j : Int) := by omega
      obtain ⟨b, off, rfl, hb, hx⟩ := (h.below hbel).items hlt
      obtain ⟨hxi, hxk⟩ := hx j hlt
      clear hx
      have ht := findI_take hlt hno.out
      have hkl := ky_lt hk
      have hwl : w.heap.size + 1 < wr.heap.size := by
        obtain ⟨v, hv⟩ := Option.isSome_iff_exists.1 (hth 0 (by omega)).1
        exact World.block_lt_of_cell? wr _ hv
      by_cases he : l[j].k = k
      · have hfin := Lib.hid (ht.1 he)
        have heb : decide (l[j].k = k) = true := decide_eq_true he
        clear ht he
        have hbA := bel_alloc (Below.refl wr.heap.size wr) (.cells (cI l[j]).toArray 51)
        have hthA := there_bel hth hbA hwl
        have hbelA := bel_alloc hbel (.cells (cI l[j]).toArray 51)
        repeat go_step
        have hI := itAt_setCells l[j] hth
        have hBs := below_setCells (w.heap.size + 1) (cI l[j]) 0 hbel (by omega)
        generalize wr.setCells (w.heap.size + 1) 0 (cI l[j]) = w9 at *
        refine ret_item2 (x := l[j]) Try.results60 rfl rfl (itAt_later hI (bel_alloc (Below.refl _ _) _)) ⟨?_, bel_alloc hBs _⟩
        rw [hfin.out]
        rfl
      · have hnx := Lib.hid (ht.2 he)
        have heb : decide (l[j].k = k) = false := decide_eq_false he
        clear ht he
        have hbA := bel_alloc (Below.refl wr.heap.size wr) (.cells (cI l[j]).toArray 51)
        have hthA := there_bel hth hbA hwl
        have hbelA := bel_alloc hbel (.cells (cI l[j]).toArray 51)
        have hkA := kyAt_later hk hbA
        go_wp2
        go_roundw
        case rel => exact ⟨j + 1, by omega, by go_num, hbelA, hkA, hthA, hnx.out⟩
        case measure => simp [intOf]; omega
    · obtain rfl : j = l.length := by omega
      have hfin : Hid (findI l k = none) := by have := hno.out; rwa [List.take_length] at this
      clear hno
      repeat go_step
      refine ret_item2 (x := noneI k0) Try.results60 rfl rfl (itAt_setCells _ hth) ⟨?_, below_setCells _ _ _ hbel (by omega)⟩
      rw [hfin.out]
      rfl

set_option maxRecDepth 20000 in
set_option maxHeartbeats 1000000 in
theorem fits_any (A : Option Addr) (n c : Nat) (l : List It) (x : Ch) (w : World) (h : Rd w 11 (.slice A n c) n (l.flatMap cI)) :
    Calls Try.prog 48 #[.slice A n c, vC x] w fun e w' => e = .returned (.bool (fitsB l x)) ∧ Below w.heap.size w w' := by
  have hB := bel_alloc (Below.refl w.heap.size w) (.cells (cC x).toArray 53)
  have hc := chAt_new w x 53 w.heap.size rfl
  have hR := h.alloc (.cells (cC x).toArray 53)
  go_enter Try.func48, Try.ntmps48
  go_wp2_with fail
  refine (findD_any _ _ _ l x.o.k _ hR).mono ?_
  rintro e w1 ⟨rfl, hb1⟩
  have hB1 := bel_call hB hb1
  have hc1 := chAt_later hc hb1
  clear hR hB hc hb1 h
  have hB2 := bel_alloc hB1 (.cells (cI (itOr (findI l x.o.k))).toArray 51)
  have hc2 := chAt_later hc1 (bel_alloc (Below.refl _ w1) (.cells (cI (itOr (findI l x.o.k))).toArray 51))
  have hi2 := itAt_new w1 (itOr (findI l x.o.k)) 51 w1.heap.size rfl
  obtain ⟨q0, q1, q2, q3, q4⟩ := ch_parts hc2
  rw [Nat.zero_add] at q1 q2 q3 q4
  clear hB1 hc1 hc2
  by_cases h1 : x.kd = 1
  · have hf := Lib.hid (show fitsB l x = (findI l x.o.k).isNone by unfold fitsB; rw [if_pos h1])
    rw [h1] at q0
    clear h1
    go_wp2
    go_ret
    exact ⟨ret_bool hf.out.symm, hB2⟩
  · have hb1 : (x.kd == 1) = false := by simpa using h1
    cases hs : findI l x.o.k with
    | none =>
      have hf := Lib.hid (show fitsB l x = false by unfold fitsB; rw [if_neg h1, hs]; rfl)
      rw [hs] at hi2 q0 q1 q2 q3 q4 hB2
      clear h1 hs
      go_wp2
      go_ret
      exact ⟨ret_bool hf.out.symm, hB2⟩
    | some y =>
      have hf := Lib.hid (show fitsB l x = decide (y = x.o) by unfold fitsB; rw [if_neg h1, hs]; simp)
      rw [hs] at hi2 q0 q1 q2 q3 q4 hB2
      clear h1 hs
      go_wp2
      go_ret
      exact ⟨ret_bool hf.out.symm, hB2⟩

/-- What applying hands back. -/
def AppPost (a : List It) (l : List Ch) (w : World) (e : Ending) (w' : World) : Prop :=
  match appL a l with
  | some b => ∃ A c, e = .returned (.tuple #[.slice A b.length c, .int .i64 0]) ∧ w'.ownsRow w.heap.size 51 11 (.slice A b.length c) b.length (b.flatMap cI) ∧ Below w.heap.size w w'
  | none => e = .returned (.tuple #[.slice none 0 0, .int .i64 10]) ∧ Below w.heap.size w w'
theorem app_drop {l : List Ch} {j : Nat} (h : j < l.length) (a : List It) : appL a (l.drop j) = if fitsB a l[j] then appL (stepV a l[j]) (l.drop (j + 1)) else none := by
  rw [List.drop_eq_getElem_cons h]; rfl

set_option maxRecDepth 20000 in
set_option maxHeartbeats 4000000 in
theorem apply_any (A1 A2 : Option Addr) (n1 c1 n2 c2 : Nat) (a : List It) (l : List Ch) (w : World) (h1 : Rd w 11 (.slice A1 n1 c1) n1 (a.flatMap cI)) (h2 : Rd w 23 (.slice A2 n2 c2) n2 (l.flatMap cC)) (hn1 : n1 ≤ 40000) (hn2 : n2 ≤ 40000) (hr : risB a = true) (hcl : checkL l = 0) :
    Calls Try.prog 24 #[.slice A1 n1 c1, .slice A2 n2 c2] w (AppPost a l w) := by
  obtain ⟨i0, hi, hz0, hz1, hz2⟩ := info_parts Try.infoI
  have hl1 := h1.rows (sz := 11) (f := cI) (fun q => rfl) (by decide)
  have hl2 := h2.rows (sz := 23) (f := cC) (fun q => rfl) (by decide)
  have hcap1 := h1.cap
  have hcap2 := h2.cap
  unfold maxLen at hcap1 hcap2
  obtain ⟨hca1, hcb1⟩ := hcap1
  obtain ⟨hca2, hcb2⟩ := hcap2
  subst hl1 hl2
  go_enter Try.func24, Try.ntmps24
  go_wp2_with fail
  refine (rising_any _ _ _ a _ h1).mono ?_
  rintro e w1 ⟨rfl, hb1⟩
  rw [hr]
  have h1' := h1.below hb1
  have h2' := h2.below hb1
  go_wp2_with fail
  refine (check_any _ _ _ l _ h2').mono ?_
  rintro e w2 ⟨rfl, hb2⟩
  rw [hcl]
  have hR1 := h1'.below hb2
  have hR2 := h2'.below hb2
  have hB2 := bel_call hb1 hb2
  clear h1' h2' hb1 hb2 hr hcl h1
  go_wp2
  go_loopw [7, 21] (fun v i wr => ∃ (j : Nat) (A : Option Addr) (c : Nat) (L : List It), j ≤ l.length ∧ i = .int .i64 j ∧ v = .slice A L.length c ∧ Rd wr 11 (.slice A L.length c) L.length (L.flatMap cI) ∧ L.length ≤ 40000 + j ∧ Hid (appL a l = appL L (l.drop j)) ∧ Below w.heap.size w wr) (fun _ i _ => l.length - (intOf i).toNat)
  case atStart => exact ⟨0, _, _, a, Nat.zero_le _, rfl, rfl, hR1, by omega, rfl, hB2⟩
  case round =>
    obtain ⟨j, A, c, L, hj, rfl, rfl, hRL, hLn, hch, hbel⟩ := hrel
    by_cases hlt : j < l.length
    · have hji : (j : Int) < l.length := by omega
      have hj0 : (0 : Int) ≤ (j : Int) := by omega
      obtain ⟨b, off, rfl, hb, hx⟩ := (h2.below hbel).changes hlt
      have hxi := hx j hlt
      have hst := app_drop hlt L
      have hcA := chAt_new wr l[j] 53 wr.heap.size rfl
      have hRA := hRL.alloc (.cells (cC l[j]).toArray 53)
      have hbelA := bel_alloc hbel (.cells (cC l[j]).toArray 53)
      clear hx hR1 hR2 hB2
      go_wp2_with fail
      refine (fits_any _ _ _ L l[j] _ hRA).mono ?_
      rintro e w3 ⟨rfl, hb3⟩
      have hRB := hRA.below hb3
      have hcB := chAt_later hcA hb3
      have hbelB := bel_call hbelA hb3
      obtain ⟨q0, q1, q2, q3, q4⟩ := ch_parts hcB
      rw [Nat.zero_add] at q1 q2 q3 q4
      clear hRL hcA hRA hbelA hb3 hbel hxi hb q1 q2 q4
      cases hq : fitsB L l[j] with
      | false =>
        have hfin := Lib.hid (show appL a l = none by rw [hch.out, hst, hq]; rfl)
        clear hst hch hq
        go_wp2
        go_ret2
        unfold AppPost
        rw [hfin.out]
        exact ⟨rfl, hbelB⟩
      | true =>
        have hnx := Lib.hid (show appL a l = appL (stepV L l[j]) (l.drop (j + 1)) by rw [hch.out, hst, hq]; rfl)
        clear hst hch hq
        have hwl := wo_len L l[j].o.k
        go_wp2_with fail
        refine (vWithout_any _ _ _ L l[j].o.k _ hRB (by omega)).mono ?_
        rintro e w4 ⟨A4, c4, rfl, ho4, hb4⟩
        have hR4 := Rd.of_own ho4
        have hcC := chAt_later hcB hb4
        have hbelC := bel_call hbelB hb4
        obtain ⟨q0, q1, q2, q3, q4⟩ := ch_parts hcC
        rw [Nat.zero_add] at q1 q2 q3 q4
        clear hRB hcB hbelB hb4 ho4 q1 q3 q4
        by_cases h2' : l[j].kd = 2
        · have hfin := Lib.hid (show stepV L l[j] = woL L l[j].o.k by unfold stepV; rw [if_pos h2'])
          rw [h2'] at q0
          clear h2'
          generalize woL L l[j].o.k = L2 at *
          go_wp2
          go_roundw
          case rel => exact ⟨j + 1, A4, c4, L2, by omega, by go_num, rfl, hR4, by omega, by have := hnx.out; rw [hfin.out] at this; exact this, hbelC⟩
          case measure => simp [intOf]; omega
        · have hb2 : (l[j].kd == 2) = false := by simpa using h2'
          have hfin := Lib.hid (show stepV L l[j] = putV (woL L l[j].o.k) l[j].n by unfold stepV; rw [if_neg h2'])
          clear h2'
          generalize woL L l[j].o.k = L2 at *
          have hpl := putV_len L2 l[j].n
          go_wp2_with fail
          refine (vPut_any _ _ _ L2 l[j].n _ hR4 (by omega)).mono ?_
          rintro e w5 ⟨A5, c5, rfl, ho5, hb5⟩
          have hR5 := Rd.of_own ho5
          have hbelD := bel_call hbelC hb5
          clear hR4 hcC hbelC hb5 ho5 q0 q2
          generalize putV L2 l[j].n = L3 at *
          go_wp2
          go_roundw
          case rel => exact ⟨j + 1, A5, c5, L3, by omega, by go_num, rfl, hR5, by omega, by have := hnx.out; rw [hfin.out] at this; exact this, hbelD⟩
          case measure => simp [intOf]; omega
    · obtain rfl : j = l.length := by omega
      have hfin := Lib.hid (show appL a l = some L by rw [hch.out, List.drop_length]; rfl)
      clear hch hR1 hR2 hB2
      have hsz := hbel.size
      go_wp2_with (at_builtin; refine wpList_more _ rfl _ _ 22 rfl w.heap.size 51 i0 (vI (noneI k0)) 11 96 Try.underlying22 hi hz0 hz1 hz2 rfl (by decide) _ _ _ rfl (World.ownsRow_nil _ _ _ _) _ _ _ _ rfl hRL (flat_one L) ?d1 ?d2 hsz hbel ?_)
      case d1 => unfold maxLen; omega
      case d2 => omega
      intro v3 w3 ho3 hg3 hm3 hbel3 hsz3
      go_wp2
      go_ret2
      obtain ⟨A3, c3, rfl⟩ := own_form ho3
      unfold AppPost
      rw [hfin.out]
      exact ⟨A3, c3, rfl, ho3, hbel3⟩
end Go.Proofs.Ytdefpphfbpkeaaa
