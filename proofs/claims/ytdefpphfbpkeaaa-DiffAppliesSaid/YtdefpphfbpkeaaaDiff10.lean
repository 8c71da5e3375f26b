/-
  Are items few and short? Does the program answer? The law DiffOf.
-/
import Derived.Test.YtdefpphfbpkeaaaDiff9
namespace Go.Proofs.Ytdefpphfbpkeaaa
open Go.RowKit
set_option linter.unusedVariables false

def lightX (x : It) : Bool := decide (x.k.n.length ≤ 300) && decide (x.k.d.length ≤ 300) && decide (x.k.p.length ≤ 300) && decide (x.c.v.length ≤ 300)
def lightL (m : Nat) (l : List It) : Bool := decide (l.length ≤ m) && l.all lightX
theorem it_cells {w : World} {b o : Nat} {x : It} (h : itAt w b o = some x) : w.cell? ⟨b, o, none⟩ = some (.string (S x.k.n)) ∧ w.cell? ⟨b, o + 1, none⟩ = some (.string (S x.k.d)) ∧ w.cell? ⟨b, o + 2, none⟩ = some (.string (S x.k.p)) ∧ w.cell? ⟨b, o + 3, none⟩ = some (.string (S x.c.v)) :=
  have hr : w.rangeAt b o (cI x) := rdAt_range (f := cI) h
  ⟨hr 0 _ rfl, hr 1 _ rfl, hr 2 _ rfl, hr 3 _ rfl⟩
theorem allx_step {p : It → Bool} {l : List It} {k : Nat} (h : k < l.length) : (l.take (k + 1)).all p = ((l.take k).all p && p l[k]) := by
  rw [List.take_succ_eq_append_getElem h, List.all_append]; simp
theorem allx_bad {p : It → Bool} {l : List It} {k : Nat} (h : k < l.length) (hp : p l[k] = false) : l.all p = false := by
  rw [List.all_eq_false]
  exact ⟨l[k], List.getElem_mem h, by simp [hp]⟩

set_option maxHeartbeats 2000000 in
theorem light47_any (A : Option Addr) (n c : Nat) (l : List It) (w : World) (h : Rd w 11 (.slice A n c) n (l.flatMap cI)) :
    Calls Try.prog 11 #[.slice A n c] w fun e w' => e = .returned (.bool (lightL 30 l)) ∧ Below w.heap.size w w' := by
  have hl := h.rows (sz := 11) (f := cI) (fun q => rfl) (by decide)
  have hcap := h.cap
  unfold maxLen at hcap
  obtain ⟨hca, hcb⟩ := hcap
  subst hl
  by_cases hbig : 30 < l.length
  · have hbi : (30 : Int) < l.length := by omega
    go_enter Try.func11, Try.ntmps11
    go_wp2
    go_ret
    exact ⟨ret_bool (by unfold lightL; rw [decide_eq_false (by omega)]; rfl), Below.refl _ _⟩
  have hbi : (l.length : Int) ≤ 30 := by omega
  have hfin := Lib.hid (show lightL 30 l = l.all lightX by unfold lightL; rw [decide_eq_true (by omega)]; rfl)
  go_enter Try.func11, Try.ntmps11
  go_wp2
  go_loopw [3] (fun i wr => ∃ k : Nat, k ≤ l.length ∧ i = .int .i64 k ∧ Hid ((l.take k).all lightX = true) ∧ Below w.heap.size w wr) (fun i _ => l.length - (intOf i).toNat)
  case atStart => exact ⟨0, Nat.zero_le _, rfl, rfl, Below.refl _ _⟩
  case round =>
    obtain ⟨k, hk, rfl, hall, hbel⟩ := hrel
    by_cases hlt : k < l.length
    · have hki : (k : Int) < l.length := by omega
      obtain ⟨b, off, rfl, hb, hx⟩ := (h.below hbel).items hlt
      obtain ⟨q0, q1, q2, q3⟩ := it_cells (hx k hlt).1
      clear hx
      have hstep := Lib.hid (allx_step (p := lightX) hlt)
      have hbad := Lib.hid (allx_bad (p := lightX) hlt)
      by_cases g0 : l[k].k.n.length ≤ 300
      · have j0 : decide ((300 : Int) < l[k].k.n.length) = false := decide_eq_false (by omega)
        by_cases g1 : l[k].k.d.length ≤ 300
        · have j1 : decide ((300 : Int) < l[k].k.d.length) = false := decide_eq_false (by omega)
          by_cases g2 : l[k].k.p.length ≤ 300
          · have j2 : decide ((300 : Int) < l[k].k.p.length) = false := decide_eq_false (by omega)
            by_cases g3 : l[k].c.v.length ≤ 300
            · have j3 : decide ((300 : Int) < l[k].c.v.length) = false := decide_eq_false (by omega)
              have hp := Lib.hid (show lightX l[k] = true by unfold lightX; rw [decide_eq_true g0, decide_eq_true g1, decide_eq_true g2, decide_eq_true g3]; rfl)
              clear g0 g1 g2 g3
              go_wp2
              go_roundw
              case rel => exact ⟨k + 1, by omega, by go_num, by show _ = _; rw [hstep.out, hall.out, hp.out]; rfl, hbel⟩
              case measure => simp [intOf]; omega
            · have j3 : decide ((300 : Int) < l[k].c.v.length) = true := decide_eq_true (by omega)
              have hp := Lib.hid (show lightX l[k] = false by unfold lightX; rw [decide_eq_false g3]; simp)
              clear g0 g1 g2 g3
              go_wp2
              go_ret
              exact ⟨ret_bool (by rw [hfin.out, hbad.out hp.out]), hbel⟩
          · have j2 : decide ((300 : Int) < l[k].k.p.length) = true := decide_eq_true (by omega)
            have hp := Lib.hid (show lightX l[k] = false by unfold lightX; rw [decide_eq_false g2]; simp)
            clear g0 g1 g2
            go_wp2
            go_ret
            exact ⟨ret_bool (by rw [hfin.out, hbad.out hp.out]), hbel⟩
        · have j1 : decide ((300 : Int) < l[k].k.d.length) = true := decide_eq_true (by omega)
          have hp := Lib.hid (show lightX l[k] = false by unfold lightX; rw [decide_eq_false g1]; simp)
          clear g0 g1
          go_wp2
          go_ret
          exact ⟨ret_bool (by rw [hfin.out, hbad.out hp.out]), hbel⟩
      · have j0 : decide ((300 : Int) < l[k].k.n.length) = true := decide_eq_true (by omega)
        have hp := Lib.hid (show lightX l[k] = false by unfold lightX; rw [decide_eq_false g0]; simp)
        clear g0
        go_wp2
        go_ret
        exact ⟨ret_bool (by rw [hfin.out, hbad.out hp.out]), hbel⟩
    · obtain rfl : k = l.length := by omega
      have hf := Lib.hid (show l.all lightX = true by have := hall.out; rwa [List.take_length] at this)
      go_wp2
      go_ret
      exact ⟨ret_bool (by rw [hfin.out, hf.out]), hbel⟩
/-- What 'awake' asks about. -/
def oneA : It := noneI ⟨[97], [], []⟩
theorem of_oneA : ofL [] [oneA] = [⟨1, oneA, oneA⟩] := by decide

theorem rd_one (w : World) (x : It) (t : TypeId) : Rd (w.alloc (.cells (cI x).toArray t)) 11 (.slice (some ⟨w.heap.size, 0, none⟩) 1 1) 1 ([x].flatMap cI) := by
  refine ⟨by simp, _, _, rfl, Nat.le_refl _, by simp [maxLen], .inr ⟨_, _, rfl, by simp, fun j hj => ?_⟩⟩
  rw [Nat.zero_add, cell_of_row _ w.heap.size j _ t (0, 0) (heap_alloc_new w _), List.flatMap_singleton]
  simp
theorem rd_nil (w : World) : Rd w 11 (.slice none 0 0) 0 (([] : List It).flatMap cI) := ⟨rfl, none, 0, rfl, Nat.le_refl _, by simp [maxLen], .inl rfl⟩
set_option maxHeartbeats 1000000 in
theorem awake47 (w : World) : Calls Try.prog 12 #[] w fun e w' => e = .returned (.bool true) ∧ Below w.heap.size w w' := by
  go_enter Try.func12, Try.ntmps12
  go_wp2_with fail
  have hB0 := bel_alloc (Below.refl w.heap.size w) (.cells (cI oneA).toArray 51)
  have hR := rd_one w oneA 51
  show Calls _ _ _ (w.alloc (.cells (cI oneA).toArray 51)) _
  generalize w.alloc (.cells (cI oneA).toArray 51) = w0 at *
  refine (of_any none _ 0 0 1 1 [] [oneA] w0 (rd_nil w0) hR (by omega) (by omega) rfl rfl).mono ?_
  rintro e w1 ⟨A, c, rfl, hown, hb1⟩
  rw [of_oneA] at hown ⊢
  have hB1 := bel_call hB0 hb1
  obtain ⟨b, off, rfl, hb, hx⟩ := (Rd.of_own hown).changes (k := 0) (by simp)
  have h0 := hx 0 (by simp)
  rw [Nat.zero_mul, Nat.add_zero] at h0
  obtain ⟨p0, _, p2, _, _⟩ := ch_parts h0
  obtain ⟨q0, _, _, _⟩ := it_cells p2
  have q0' : w1.cell? ⟨b, off + 12, none⟩ = some (.string (S [97])) := q0
  have p0' : w1.cell? ⟨b, off, none⟩ = some (.int .i64 1) := p0
  clear hx h0 p0 p2 q0 hown hR hb1 hB0
  go_wp2
  go_ret
  exact ⟨rfl, hB1⟩
end Go.Proofs.Ytdefpphfbpkeaaa
