/-
  Is it a change? May changes be?
-/
import Derived.Test.YtdefpphfbpkeaaaDiff6
namespace Go.Proofs.Ytdefpphfbpkeaaa
open Go.RowKit
set_option linter.unusedVariables false

def rgtW (w : World) (x : Ch) : World := (w.alloc (Obj.cells (cC x).toArray 53)).alloc (Obj.cells (cK x.o.k).toArray 47)
theorem rgtW_bel (w : World) (x : Ch) : Below w.heap.size w (rgtW w x) := bel_alloc (bel_alloc (Below.refl _ _) _) _
theorem rgtW_c (w : World) (x : Ch) : chAt (rgtW w x) w.heap.size 0 = some x := by unfold rgtW; go_simp
theorem rgtW_k (w : World) (x : Ch) : kyAt (rgtW w x) (w.heap.size + 1) 0 = some x.o.k := by unfold rgtW; go_simp

set_option maxHeartbeats 1000000 in
theorem right_any (x : Ch) (w : World) : Calls Try.prog 26 #[vC x] w fun e w' => e = .returned (.bool (rightB x)) ∧ Below w.heap.size w w' := by
  have hB := rgtW_bel w x
  have hc := rgtW_c w x
  have hk := rgtW_k w x
  obtain ⟨p0, p1, p2, p3, p4⟩ := ch_parts hc
  rw [Nat.zero_add] at p1 p2 p3 p4
  by_cases hkk : x.o.k = x.n.k
  · have hkd : decide (x.o.k = x.n.k) = true := decide_eq_true hkk
    by_cases h1 : x.kd = 1
    · have hb1 : (x.kd == 1) = true := by simpa using h1
      have hfin : Hid (rightB x = decide (x.o = noneI x.o.k)) := by show _ = _; unfold rightB; rw [hkd, if_pos h1, Bool.true_and]
      clear h1 hkk
      go_enter Try.func26, Try.ntmps26
      go_wp2
      show Code.wp _ _ _ _ (rgtW w x)
      generalize rgtW w x = W at *
      go_region_held3 (fun w' => itAt w' w.heap.size 1 = some x.o ∧ kyAt w' (w.heap.size + 1) 0 = some x.o.k) (first | exact ⟨it_drew p1, ky_drew hk⟩ | exact ⟨itAt_later (it_drew p1) hb1', kyAt_later (ky_drew hk) hb1'⟩) (first | (go_at_call 42; refine (none_any _ _).mono ?_; rintro e w1 ⟨rfl, hb1'⟩))
      have hBx := bel_drew hB hb1'
      clear hc hk p0 p1 p2 p3 p4 hkd hb1 hb1'
      go_wp2
      go_ret
      exact ⟨ret_bool hfin.out.symm, hBx⟩
    · have hb1 : (x.kd == 1) = false := by simpa using h1
      by_cases h2 : x.kd = 2
      · have hb2 : (x.kd == 2) = true := by simpa using h2
        have hfin : Hid (rightB x = decide (x.n = noneI x.o.k)) := by show _ = _; unfold rightB; rw [hkd, if_neg h1, if_pos h2, Bool.true_and]
        clear h1 h2 hkk
        go_enter Try.func26, Try.ntmps26
        go_wp2
        show Code.wp _ _ _ _ (rgtW w x)
        generalize rgtW w x = W at *
        go_region_held3 (fun w' => itAt w' w.heap.size 12 = some x.n ∧ kyAt w' (w.heap.size + 1) 0 = some x.o.k) (first | exact ⟨it_drew p2, ky_drew hk⟩ | exact ⟨itAt_later (it_drew p2) hb1', kyAt_later (ky_drew hk) hb1'⟩) (first | (go_at_call 42; refine (none_any _ _).mono ?_; rintro e w1 ⟨rfl, hb1'⟩))
        have hBx := bel_drew hB hb1'
        clear hc hk p0 p1 p2 p3 p4 hkd hb1 hb2 hb1'
        go_wp2
        go_ret
        exact ⟨ret_bool hfin.out.symm, hBx⟩
      · have hb2 : (x.kd == 2) = false := by simpa using h2
        by_cases h3 : x.kd = 3
        · have hb3 : (x.kd == 3) = true := by simpa using h3
          have hfin : Hid (rightB x = !decide (x.o = x.n)) := by show _ = _; unfold rightB; rw [hkd, if_neg h1, if_neg h2, decide_eq_true h3]; simp
          clear h1 h2 h3 hkk
          go_enter Try.func26, Try.ntmps26
          go_wp2
          go_ret
          exact ⟨ret_bool hfin.out.symm, hB⟩
        · have hb3 : (x.kd == 3) = false := by simpa using h3
          have hfin : Hid (rightB x = false) := by show _ = _; unfold rightB; rw [hkd, if_neg h1, if_neg h2, decide_eq_false h3]; simp
          clear h1 h2 h3 hkk
          go_enter Try.func26, Try.ntmps26
          go_wp2
          go_ret
          exact ⟨ret_bool hfin.out.symm, hB⟩
  · have hkd : decide (x.o.k = x.n.k) = false := decide_eq_false hkk
    have hfin : Hid (rightB x = false) := by show _ = _; unfold rightB; rw [hkd]; rfl
    clear hkk
    go_enter Try.func26, Try.ntmps26
    go_wp2
    go_ret
    exact ⟨ret_bool hfin.out.symm, hB⟩

theorem checkGo_cons (p : Option Ky) (x : Ch) (r : List Ch) : checkGo p (x :: r) = if rightB x then (if (match p with | none => true | some k => lessK k x.o.k) then checkGo (some x.o.k) r else 6) else 1 := by cases p <;> rfl
theorem check_step {l : List Ch} {p : Option Ky} {k : Nat} (h : k < l.length) :
    checkGo (if k = 0 then none else some (l.getD (k - 1) ⟨0, noneI k0, noneI k0⟩).o.k) (l.drop k) =
      if rightB l[k] then (if k = 0 ∨ lessK (l.getD (k - 1) ⟨0, noneI k0, noneI k0⟩).o.k l[k].o.k = true then checkGo (some l[k].o.k) (l.drop (k + 1)) else 6) else 1 := by
  rw [List.drop_eq_getElem_cons h, checkGo_cons]
  by_cases h0 : k = 0
  · simp [h0]
  · simp [h0]
/-- What is wrong with changes from one on. -/
def checkAt (l : List Ch) (k : Nat) : Int := checkGo (if k = 0 then none else some (l.getD (k - 1) ⟨0, noneI k0, noneI k0⟩).o.k) (l.drop k)
theorem checkAt_zero (l : List Ch) : checkAt l 0 = checkL l := rfl
theorem checkAt_bad {l : List Ch} {k : Nat} (h : k < l.length) (hr : rightB l[k] = false) : checkAt l k = 1 := by
  unfold checkAt; rw [check_step (p := none) h, if_neg (by simp [hr])]
theorem checkAt_order {l : List Ch} {k : Nat} (h : k + 1 < l.length) (hr : rightB l[k + 1] = true) (hl : lessK l[k].o.k l[k + 1].o.k = false) : checkAt l (k + 1) = 6 := by
  unfold checkAt
  rw [check_step (p := none) h, if_pos hr, if_neg]
  rw [List.getD_eq_getElem?_getD, Nat.add_sub_cancel, List.getElem?_eq_getElem (by omega)]
  simp [hl]
theorem checkAt_next {l : List Ch} {k : Nat} (h : k + 1 < l.length) (hr : rightB l[k + 1] = true) (hl : lessK l[k].o.k l[k + 1].o.k = true) : checkAt l (k + 1) = checkAt l (k + 2) := by
  unfold checkAt
  rw [check_step (p := none) h, if_pos hr, if_pos, if_neg (by omega), List.getD_eq_getElem?_getD, List.getElem?_eq_getElem (by omega)]
  · rfl
  · right
    rw [List.getD_eq_getElem?_getD, Nat.add_sub_cancel, List.getElem?_eq_getElem (by omega)]
    exact hl
theorem checkAt_first {l : List Ch} (h : 0 < l.length) (hr : rightB l[0] = true) : checkAt l 0 = checkAt l 1 := by
  unfold checkAt
  rw [check_step (p := none) h, if_pos hr, if_pos (.inl rfl), if_neg (by omega), List.getD_eq_getElem?_getD, List.getElem?_eq_getElem (by omega)]
  rfl
theorem checkAt_end {l : List Ch} {k : Nat} (h : l.length ≤ k) : checkAt l k = 0 := by unfold checkAt; rw [List.drop_eq_nil_of_le h]; rfl
end Go.Proofs.Ytdefpphfbpkeaaa
