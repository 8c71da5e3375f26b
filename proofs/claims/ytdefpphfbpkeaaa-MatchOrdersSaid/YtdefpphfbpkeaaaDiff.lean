/-
  Changes and items in rows; do items stand by rising keys?
-/
import Derived.Test.YtdefpphfbpkeaaaDiffP
import Derived.IntWalk
namespace Go.Proofs.Ytdefpphfbpkeaaa
open Go.RowKit
set_option linter.unusedVariables false

theorem kyAt_later {w w1 : World} {b o : Nat} {k : Ky} (h : kyAt w b o = some k) (hb : Below w.heap.size w w1) : kyAt w1 b o = some k := rdAt_kept hb (ky_lt h) h
theorem itAt_later {w w1 : World} {b o : Nat} {k : It} (h : itAt w b o = some k) (hb : Below w.heap.size w w1) : itAt w1 b o = some k := rdAt_kept hb (it_lt h) h
theorem ky_drew {w : World} {b o : Nat} {k : Ky} (h : kyAt w b o = some k) : kyAt w.drew b o = some k := by rw [kyAt_drew]; exact h
theorem it_drew {w : World} {b o : Nat} {k : It} (h : itAt w b o = some k) : itAt w.drew b o = some k := by rw [itAt_drew]; exact h
theorem bel_drew {W w w1 : World} (h : Below W.heap.size W w) (hb : Below w.drew.heap.size w.drew w1) : Below W.heap.size W w1 := bel_call h.drew hb

set_option maxHeartbeats 1000000 in
theorem rising_any (A : Option Addr) (n c : Nat) (l : List It) (w : World) (h : Rd w 11 (.slice A n c) n (l.flatMap cI)) :
    Calls Try.prog 41 #[.slice A n c] w fun e w' => e = .returned (.bool (risB l)) ∧ Below w.heap.size w w' := by
  have hl := h.rows (sz := 11) (f := cI) (fun q => rfl) (by decide)
  have hcap := h.cap
  unfold maxLen at hcap
  obtain ⟨hca, hcb⟩ := hcap
  subst hl
  go_enter Try.func41, Try.ntmps41
  go_wp2
  go_loopw [3] (fun i wr => ∃ k : Nat, (k ≤ l.length ∨ k = 0) ∧ i = .int .i64 (k + 1 : Nat) ∧ Below w.heap.size w wr ∧ Hid (∀ j (h : j + 1 < l.length), j < k → lessK (l[j]'(by omega)).k l[j + 1].k = true)) (fun i _ => l.length + 1 - (intOf i).toNat)
  case atStart => exact ⟨0, .inr rfl, rfl, Below.refl _ _, fun j _ hj => absurd hj (by omega)⟩
  case round =>
    obtain ⟨k, hk, rfl, hbel, hall⟩ := hrel
    by_cases hlt : k + 1 < l.length
    · have hki : ((k + 1 : Nat) : Int) < l.length := by omega
      obtain ⟨b, off, rfl, hb, hx⟩ := (h.below hbel).items (by omega : k < l.length)
      have hx1 := (hx k (by omega)).2
      have hx2 := (hx (k + 1) hlt).2
      clear hx hk
      have b0 : (0 : Int) ≤ (k : Int) := by omega
      have b1 : (k : Int) < l.length := by omega
      have b2 : (0 : Int) ≤ (k : Int) + 1 := by omega
      have b3 : (k : Int) + 1 < l.length := by omega
      have b4 : ((k : Int) + 1).toNat = k + 1 := by omega
      have b5 : IntKind.i64.wrap ((k : Int) + 1 - 1) = k := by rw [IntWalk.i64_in _ (by omega)]; omega
      have b6 : IntKind.i64.wrap (k : Int) = k := IntWalk.i64_in _ (by omega)
      have hx1' := Lib.hid hx1
      have hx2' := Lib.hid hx2
      clear hx1 hx2
      go_wp2
      have hx1 := hx1'.out
      have hx2 := hx2'.out
      cases hq : lessK l[k].k l[k + 1].k with
      | true =>
        have hqh := Lib.hid hq
        go_region_held3 (fun w' => kyAt w' b (off + k * 11) = some l[k].k ∧ kyAt w' b (off + (k + 1) * 11) = some l[k + 1].k) (first | exact ⟨ky_drew hx1, ky_drew hx2⟩ | exact ⟨kyAt_later (ky_drew hx1) hb1, kyAt_later (ky_drew hx2) hb1⟩) (first | (go_at_call 39; refine (less_any _ _ _).mono ?_; rintro e w1 ⟨rfl, hb1⟩))
        have hbel1 := bel_drew hbel hb1
        clear hx1 hx2 hx1' hx2' hb1 hq
        go_wp2
        go_roundw
        case rel => exact ⟨k + 1, .inl (by omega), by go_num, hbel1, fun j hj hjk => by
          by_cases e : j = k
          · subst e; exact hqh.out
          · exact hall.out j hj (by omega)⟩
        case measure => simp [intOf]; omega
      | false =>
        have hqh := Lib.hid (risB_bad hlt hq)
        go_region_held3 (fun w' => kyAt w' b (off + k * 11) = some l[k].k ∧ kyAt w' b (off + (k + 1) * 11) = some l[k + 1].k) (first | exact ⟨ky_drew hx1, ky_drew hx2⟩ | exact ⟨kyAt_later (ky_drew hx1) hb1, kyAt_later (ky_drew hx2) hb1⟩) (first | (go_at_call 39; refine (less_any _ _ _).mono ?_; rintro e w1 ⟨rfl, hb1⟩))
        have hbel1 := bel_drew hbel hb1
        clear hx1 hx2 hx1' hx2' hb1 hq
        go_wp2
        go_ret
        exact ⟨ret_bool hqh.out.symm, hbel1⟩
    · have hR : Hid (risB l = true) := risB_all fun j hj => hall.out j hj (by omega)
      have hki : ¬ ((k + 1 : Nat) : Int) < l.length := by omega
      go_wp2
      go_ret
      exact ⟨ret_bool hR.out.symm, hbel⟩

set_option maxHeartbeats 1000000 in
theorem refRising_any (A : Option Addr) (n c : Nat) (l : List It) (w : World) (h : Rd w 11 (.slice A n c) n (l.flatMap cI)) :
    Calls Try.prog 14 #[.slice A n c] w fun e w' => e = .returned (.bool (risB l)) ∧ Below w.heap.size w w' := by
  have hl := h.rows (sz := 11) (f := cI) (fun q => rfl) (by decide)
  have hcap := h.cap
  unfold maxLen at hcap
  obtain ⟨hca, hcb⟩ := hcap
  subst hl
  go_enter Try.func14, Try.ntmps14
  go_wp2
  go_loopw [3] (fun i wr => ∃ k : Nat, (k ≤ l.length ∨ k = 0) ∧ i = .int .i64 (k + 1 : Nat) ∧ Below w.heap.size w wr ∧ Hid (∀ j (h : j + 1 < l.length), j < k → lessK (l[j]'(by omega)).k l[j + 1].k = true)) (fun i _ => l.length + 1 - (intOf i).toNat)
  case atStart => exact ⟨0, .inr rfl, rfl, Below.refl _ _, fun j _ hj => absurd hj (by omega)⟩
  case round =>
    obtain ⟨k, hk, rfl, hbel, hall⟩ := hrel
    by_cases hlt : k + 1 < l.length
    · have hki : ((k + 1 : Nat) : Int) < l.length := by omega
      obtain ⟨b, off, rfl, hb, hx⟩ := (h.below hbel).items (by omega : k < l.length)
      have hx1 := (hx k (by omega)).2
      have hx2 := (hx (k + 1) hlt).2
      clear hx hk
      have b0 : (0 : Int) ≤ (k : Int) := by omega
      have b1 : (k : Int) < l.length := by omega
      have b2 : (0 : Int) ≤ (k : Int) + 1 := by omega
      have b3 : (k : Int) + 1 < l.length := by omega
      have b4 : ((k : Int) + 1).toNat = k + 1 := by omega
      have b5 : IntKind.i64.wrap ((k : Int) + 1 - 1) = k := by rw [IntWalk.i64_in _ (by omega)]; omega
      have b6 : IntKind.i64.wrap (k : Int) = k := IntWalk.i64_in _ (by omega)
      have hx1' := Lib.hid hx1
      have hx2' := Lib.hid hx2
      clear hx1 hx2
      go_wp2
      have hx1 := hx1'.out
      have hx2 := hx2'.out
      cases hq : lessK l[k].k l[k + 1].k with
      | true =>
        have hqh := Lib.hid hq
        go_region_held3 (fun w' => kyAt w' b (off + k * 11) = some l[k].k ∧ kyAt w' b (off + (k + 1) * 11) = some l[k + 1].k) (first | exact ⟨ky_drew hx1, ky_drew hx2⟩ | exact ⟨kyAt_later (ky_drew hx1) hb1, kyAt_later (ky_drew hx2) hb1⟩) (first | (go_at_call 40; refine (refLess_any _ _ _).mono ?_; rintro e w1 ⟨rfl, hb1⟩))
        have hbel1 := bel_drew hbel hb1
        clear hx1 hx2 hx1' hx2' hb1 hq
        go_wp2
        go_roundw
        case rel => exact ⟨k + 1, .inl (by omega), by go_num, hbel1, fun j hj hjk => by
          by_cases e : j = k
          · subst e; exact hqh.out
          · exact hall.out j hj (by omega)⟩
        case measure => simp [intOf]; omega
      | false =>
        have hqh := Lib.hid (risB_bad hlt hq)
        go_region_held3 (fun w' => kyAt w' b (off + k * 11) = some l[k].k ∧ kyAt w' b (off + (k + 1) * 11) = some l[k + 1].k) (first | exact ⟨ky_drew hx1, ky_drew hx2⟩ | exact ⟨kyAt_later (ky_drew hx1) hb1, kyAt_later (ky_drew hx2) hb1⟩) (first | (go_at_call 40; refine (refLess_any _ _ _).mono ?_; rintro e w1 ⟨rfl, hb1⟩))
        have hbel1 := bel_drew hbel hb1
        clear hx1 hx2 hx1' hx2' hb1 hq
        go_wp2
        go_ret
        exact ⟨ret_bool hqh.out.symm, hbel1⟩
    · have hR : Hid (risB l = true) := risB_all fun j hj => hall.out j hj (by omega)
      have hki : ¬ ((k + 1 : Nat) : Int) < l.length := by omega
      go_wp2
      go_ret
      exact ⟨ret_bool hR.out.symm, hbel⟩
end Go.Proofs.Ytdefpphfbpkeaaa
