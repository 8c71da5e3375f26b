/-
  May changes be?
-/
import Derived.Test.YtdefpphfbpkeaaaDiff7
namespace Go.Proofs.Ytdefpphfbpkeaaa
open Go.RowKit
set_option linter.unusedVariables false

set_option maxHeartbeats 2000000 in
theorem check_any (A : Option Addr) (n c : Nat) (l : List Ch) (w : World) (h : Rd w 23 (.slice A n c) n (l.flatMap cC)) :
    Calls Try.prog 18 #[.slice A n c] w fun e w' => e = .returned (.int .i64 (checkL l)) ∧ Below w.heap.size w w' := by
  have hl := h.rows (sz := 23) (f := cC) (fun q => rfl) (by decide)
  have hcap := h.cap
  unfold maxLen at hcap
  obtain ⟨hca, hcb⟩ := hcap
  subst hl
  go_enter Try.func18, Try.ntmps18
  go_wp2
  go_loopw [7] (fun i wr => ∃ k : Nat, k ≤ l.length ∧ i = .int .i64 k ∧ Below w.heap.size w wr ∧ Hid (checkL l = checkAt l k)) (fun i _ => l.length - (intOf i).toNat)
  case atStart => exact ⟨0, Nat.zero_le _, rfl, Below.refl _ _, (checkAt_zero l).symm⟩
  case round =>
    obtain ⟨k, hk, rfl, hbel, hch⟩ := hrel
    by_cases hlt : k < l.length
    · have hki : (k : Int) < l.length := by omega
      have hk0 : (0 : Int) ≤ (k : Int) := by omega
      have hRr := h.below hbel
      obtain ⟨b, off, rfl, hb, hx⟩ := hRr.changes hlt
      have hxi := hx k hlt
      clear hx
      go_wp2_with fail
      have hB1 := bel_alloc hbel (.cells (cC l[k]).toArray 53)
      have hc1 := chAt_new wr l[k] 53 _ rfl
      have hR1 := hRr.alloc (.cells (cC l[k]).toArray 53)
      generalize wr.alloc (.cells (cC l[k]).toArray 53) = w1 at *
      generalize wr.heap.size = g1 at *
      clear hxi hRr
      refine (right_any l[k] _).mono ?_
      rintro e w2 ⟨rfl, hb2⟩
      have hB2 := bel_call hB1 hb2
      have hc2 := chAt_later hc1 hb2
      have hR2 := hR1.below hb2
      have hk2 := (ch_parts hc2).2.2.2.1
      rw [Nat.zero_add] at hk2
      have hm2 := ch_lt hc2
      clear hc1 hR1 hB1 hb2 hbel hc2 hb
      cases hr : rightB l[k] with
      | false =>
        have hfin := Lib.hid (checkAt_bad hlt hr)
        clear hr
        go_wp2
        go_ret
        exact ⟨ret_int (by rw [hch.out, hfin.out]), hB2⟩
      | true =>
        rcases k with _ | k
        · have hfin := Lib.hid (checkAt_first hlt hr)
          have hg0 : ((0 : Nat) : Int) = 0 := rfl
          clear hr
          go_wp2
          go_quiet (fail)
          have hB3 := below_drews hB2 nq
          clear hk2 hm2 hR2 hB2
          generalize w2.drewN nq = w3 at *
          go_wp2
          go_roundw
          case rel => exact ⟨1, by omega, by simp, hB3, hch.out.trans hfin.out⟩
          case measure => simp [intOf]; omega
        · have hcn := Lib.hid (hr)
          have b0 : (0 : Int) ≤ (k : Int) := by omega
          have b1 : (k : Int) < l.length := by omega
          have b2 : (0 : Int) ≤ (k : Int) + 1 := by omega
          have b3 : (k : Int) + 1 < l.length := by omega
          have b4 : ((k : Int) + 1).toNat = k + 1 := by omega
          have b5 : IntKind.i64.wrap ((k : Int) + 1 - 1) = k := by rw [IntWalk.i64_in _ (by omega)]; omega
          have b6 : IntKind.i64.wrap (k : Int) = k := IntWalk.i64_in _ (by omega)
          have b7 : decide ((0 : Int) < (k : Int) + 1) = true := decide_eq_true (by omega)
          have hp2 := (ch_parts (hR2.ch (j := k) (by omega))).2.2.2.1
          clear hr
          have hpk := Lib.hid hp2
          have hkk := Lib.hid hk2
          clear hp2 hk2
          go_wp2
          have hp2 := hpk.out
          have hk2 := hkk.out
          clear hpk hkk
          cases hq : lessK l[k].o.k l[k + 1].o.k with
          | true =>
            have hfin := Lib.hid (checkAt_next hlt hcn.out hq)
            go_region_held3 (fun w' => kyAt w' b (off + k * 23 + 1) = some l[k].o.k ∧ kyAt w' g1 1 = some l[k + 1].o.k) (first | exact ⟨ky_drew hp2, ky_drew hk2⟩ | exact ⟨kyAt_later (ky_drew hp2) hb3, kyAt_later (ky_drew hk2) hb3⟩) (first | (go_at_call 39; refine (less_any _ _ _).mono ?_; rintro e w3 ⟨rfl, hb3⟩))
            have hB3 := bel_drew hB2 hb3
            clear hp2 hk2 hb3 hB2 hR2 hq
            go_wp2
            go_roundw
            case rel => exact ⟨k + 2, by omega, by go_num, hB3, hch.out.trans hfin.out⟩
            case measure => simp [intOf]; omega
          | false =>
            have hfin := Lib.hid (checkAt_order hlt hcn.out hq)
            go_region_held3 (fun w' => kyAt w' b (off + k * 23 + 1) = some l[k].o.k ∧ kyAt w' g1 1 = some l[k + 1].o.k) (first | exact ⟨ky_drew hp2, ky_drew hk2⟩ | exact ⟨kyAt_later (ky_drew hp2) hb3, kyAt_later (ky_drew hk2) hb3⟩) (first | (go_at_call 39; refine (less_any _ _ _).mono ?_; rintro e w3 ⟨rfl, hb3⟩))
            have hB3 := bel_drew hB2 hb3
            clear hp2 hk2 hb3 hB2 hR2 hq
            go_wp2
            go_ret
            exact ⟨ret_int (by rw [hch.out, hfin.out]), hB3⟩
    · obtain rfl : k = l.length := by omega
      have hfin := Lib.hid (checkAt_end (Nat.le_refl l.length))
      go_wp2
      go_ret
      exact ⟨ret_int (by rw [hch.out, hfin.out]), hbel⟩
end Go.Proofs.Ytdefpphfbpkeaaa
