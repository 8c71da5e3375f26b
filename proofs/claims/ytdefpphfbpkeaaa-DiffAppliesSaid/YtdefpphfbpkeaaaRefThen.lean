/-
  The document's way: is it a change, may changes be, the change of a key.
-/
import Derived.Test.YtdefpphfbpkeaaaThen
namespace Go.Proofs.Ytdefpphfbpkeaaa
open Go.RowKit
set_option linter.unusedVariables false

def rrW (w : World) (x : Ch) : World := (w.alloc (Obj.cells (cC x).toArray 54)).alloc (Obj.cells (cI (noneI x.o.k)).toArray 51)
theorem rrW_bel (w : World) (x : Ch) : Below w.heap.size w (rrW w x) := bel_alloc (bel_alloc (Below.refl _ _) _) _
theorem rrW_c (w : World) (x : Ch) : chAt (rrW w x) w.heap.size 0 = some x := by unfold rrW; go_simp
theorem rrW_n (w : World) (x : Ch) : itAt (rrW w x) (w.heap.size + 1) 0 = some (noneI x.o.k) := by unfold rrW; go_simp

set_option maxHeartbeats 1000000 in
theorem refRight_k (x : Ch) (w : World) (hk : decide (x.o.k = x.n.k) = false) : Calls Try.prog 27 #[vC x] w fun e w' => e = .returned (.bool false) ∧ Below w.heap.size w w' := by
  have hB := rrW_bel w x
  have hn := rrW_n w x
  obtain ⟨p0, p1, p2, p3, p4⟩ := ch_parts (rrW_c w x)
  rw [Nat.zero_add] at p1 p2 p3 p4
  go_enter Try.func27, Try.ntmps27
  go_upto_region 2 with (fail)
  show Code.wp _ _ _ _ (rrW w x)
  generalize rrW w x = W at *
  go_wp2
  go_ret
  exact ⟨rfl, hB⟩

set_option maxHeartbeats 1000000 in
theorem refRight_1t (x : Ch) (w : World) (hk : decide (x.o.k = x.n.k) = true) (h1 : (x.kd == 1) = true) (ha : decide (x.o = noneI x.o.k) = true) : Calls Try.prog 27 #[vC x] w fun e w' => e = .returned (.bool true) ∧ Below w.heap.size w w' := by
  have hB := rrW_bel w x
  have hn := rrW_n w x
  obtain ⟨p0, p1, p2, p3, p4⟩ := ch_parts (rrW_c w x)
  rw [Nat.zero_add] at p1 p2 p3 p4
  go_enter Try.func27, Try.ntmps27
  go_upto_region 2 with (fail)
  show Code.wp _ _ _ _ (rrW w x)
  generalize rrW w x = W at *
  go_wp2
  go_ret
  exact ⟨rfl, hB⟩

set_option maxHeartbeats 1000000 in
theorem refRight_1f (x : Ch) (w : World) (hk : decide (x.o.k = x.n.k) = true) (h1 : (x.kd == 1) = true) (h2 : (x.kd == 2) = false) (h3 : (x.kd == 3) = false) (ha : decide (x.o = noneI x.o.k) = false) : Calls Try.prog 27 #[vC x] w fun e w' => e = .returned (.bool false) ∧ Below w.heap.size w w' := by
  have hB := rrW_bel w x
  have hn := rrW_n w x
  obtain ⟨p0, p1, p2, p3, p4⟩ := ch_parts (rrW_c w x)
  rw [Nat.zero_add] at p1 p2 p3 p4
  go_enter Try.func27, Try.ntmps27
  go_upto_region 2 with (fail)
  show Code.wp _ _ _ _ (rrW w x)
  generalize rrW w x = W at *
  go_wp2
  go_ret
  exact ⟨rfl, hB⟩

set_option maxHeartbeats 1000000 in
theorem refRight_2t (x : Ch) (w : World) (hk : decide (x.o.k = x.n.k) = true) (h1 : (x.kd == 1) = false) (h2 : (x.kd == 2) = true) (hb : decide (x.n = noneI x.o.k) = true) : Calls Try.prog 27 #[vC x] w fun e w' => e = .returned (.bool true) ∧ Below w.heap.size w w' := by
  have hB := rrW_bel w x
  have hn := rrW_n w x
  obtain ⟨p0, p1, p2, p3, p4⟩ := ch_parts (rrW_c w x)
  rw [Nat.zero_add] at p1 p2 p3 p4
  go_enter Try.func27, Try.ntmps27
  go_upto_region 2 with (fail)
  show Code.wp _ _ _ _ (rrW w x)
  generalize rrW w x = W at *
  go_wp2
  go_ret
  exact ⟨rfl, hB⟩

set_option maxHeartbeats 1000000 in
theorem refRight_2f (x : Ch) (w : World) (hk : decide (x.o.k = x.n.k) = true) (h1 : (x.kd == 1) = false) (h2 : (x.kd == 2) = true) (h3 : (x.kd == 3) = false) (hb : decide (x.n = noneI x.o.k) = false) : Calls Try.prog 27 #[vC x] w fun e w' => e = .returned (.bool false) ∧ Below w.heap.size w w' := by
  have hB := rrW_bel w x
  have hn := rrW_n w x
  obtain ⟨p0, p1, p2, p3, p4⟩ := ch_parts (rrW_c w x)
  rw [Nat.zero_add] at p1 p2 p3 p4
  go_enter Try.func27, Try.ntmps27
  go_upto_region 2 with (fail)
  show Code.wp _ _ _ _ (rrW w x)
  generalize rrW w x = W at *
  go_wp2
  go_ret
  exact ⟨rfl, hB⟩

set_option maxHeartbeats 1000000 in
theorem refRight_3t (x : Ch) (w : World) (hk : decide (x.o.k = x.n.k) = true) (h1 : (x.kd == 1) = false) (h2 : (x.kd == 2) = false) (h3 : (x.kd == 3) = true) (hc : decide (x.o = x.n) = false) : Calls Try.prog 27 #[vC x] w fun e w' => e = .returned (.bool true) ∧ Below w.heap.size w w' := by
  have hB := rrW_bel w x
  have hn := rrW_n w x
  obtain ⟨p0, p1, p2, p3, p4⟩ := ch_parts (rrW_c w x)
  rw [Nat.zero_add] at p1 p2 p3 p4
  go_enter Try.func27, Try.ntmps27
  go_upto_region 2 with (fail)
  show Code.wp _ _ _ _ (rrW w x)
  generalize rrW w x = W at *
  go_wp2
  go_ret
  exact ⟨rfl, hB⟩

set_option maxHeartbeats 1000000 in
theorem refRight_3f (x : Ch) (w : World) (hk : decide (x.o.k = x.n.k) = true) (h1 : (x.kd == 1) = false) (h2 : (x.kd == 2) = false) (h3 : (x.kd == 3) = true) (hc : decide (x.o = x.n) = true) : Calls Try.prog 27 #[vC x] w fun e w' => e = .returned (.bool false) ∧ Below w.heap.size w w' := by
  have hB := rrW_bel w x
  have hn := rrW_n w x
  obtain ⟨p0, p1, p2, p3, p4⟩ := ch_parts (rrW_c w x)
  rw [Nat.zero_add] at p1 p2 p3 p4
  go_enter Try.func27, Try.ntmps27
  go_upto_region 2 with (fail)
  show Code.wp _ _ _ _ (rrW w x)
  generalize rrW w x = W at *
  go_wp2
  go_ret
  exact ⟨rfl, hB⟩

set_option maxHeartbeats 1000000 in
theorem refRight_0 (x : Ch) (w : World) (hk : decide (x.o.k = x.n.k) = true) (h1 : (x.kd == 1) = false) (h2 : (x.kd == 2) = false) (h3 : (x.kd == 3) = false) : Calls Try.prog 27 #[vC x] w fun e w' => e = .returned (.bool false) ∧ Below w.heap.size w w' := by
  have hB := rrW_bel w x
  have hn := rrW_n w x
  obtain ⟨p0, p1, p2, p3, p4⟩ := ch_parts (rrW_c w x)
  rw [Nat.zero_add] at p1 p2 p3 p4
  go_enter Try.func27, Try.ntmps27
  go_upto_region 2 with (fail)
  show Code.wp _ _ _ _ (rrW w x)
  generalize rrW w x = W at *
  go_wp2
  go_ret
  exact ⟨rfl, hB⟩

theorem refRight_any (x : Ch) (w : World) : Calls Try.prog 27 #[vC x] w fun e w' => e = .returned (.bool (rightB x)) ∧ Below w.heap.size w w' := by
  by_cases hk : x.o.k = x.n.k
  · have hkd : decide (x.o.k = x.n.k) = true := decide_eq_true hk
    by_cases h1 : x.kd = 1
    · have b2 : (x.kd == 2) = false := by rw [h1]; rfl
      have b3 : (x.kd == 3) = false := by rw [h1]; rfl
      by_cases he : x.o = noneI x.o.k
      · rw [show rightB x = true by unfold rightB; rw [hkd, if_pos h1, decide_eq_true he]; rfl]
        exact refRight_1t x w hkd (by rw [h1]; rfl) (decide_eq_true he)
      · rw [show rightB x = false by unfold rightB; rw [hkd, if_pos h1, decide_eq_false he]; rfl]
        exact refRight_1f x w hkd (by rw [h1]; rfl) b2 b3 (decide_eq_false he)
    · have b1 : (x.kd == 1) = false := by simpa using h1
      by_cases h2 : x.kd = 2
      · have b3 : (x.kd == 3) = false := by rw [h2]; rfl
        by_cases he : x.n = noneI x.o.k
        · rw [show rightB x = true by unfold rightB; rw [hkd, if_neg h1, if_pos h2, decide_eq_true he]; rfl]
          exact refRight_2t x w hkd b1 (by rw [h2]; rfl) (decide_eq_true he)
        · rw [show rightB x = false by unfold rightB; rw [hkd, if_neg h1, if_pos h2, decide_eq_false he]; rfl]
          exact refRight_2f x w hkd b1 (by rw [h2]; rfl) b3 (decide_eq_false he)
      · have b2 : (x.kd == 2) = false := by simpa using h2
        by_cases h3 : x.kd = 3
        · by_cases he : x.o = x.n
          · rw [show rightB x = false by unfold rightB; rw [hkd, if_neg h1, if_neg h2]; simp [he]]
            exact refRight_3f x w hkd b1 b2 (by rw [h3]; rfl) (decide_eq_true he)
          · rw [show rightB x = true by unfold rightB; rw [hkd, if_neg h1, if_neg h2]; simp [he, h3]]
            exact refRight_3t x w hkd b1 b2 (by rw [h3]; rfl) (decide_eq_false he)
        · rw [show rightB x = false by unfold rightB; rw [hkd, if_neg h1, if_neg h2]; simp [h3]]
          exact refRight_0 x w hkd b1 b2 (by simpa using h3)
  · rw [show rightB x = false by unfold rightB; rw [decide_eq_false hk]; rfl]
    exact refRight_k x w (decide_eq_false hk)

set_option maxHeartbeats 2000000 in
theorem refCheck_any (A : Option Addr) (n c : Nat) (l : List Ch) (w : World) (h : Rd w 23 (.slice A n c) n (l.flatMap cC)) :
    Calls Try.prog 29 #[.slice A n c] w fun e w' => e = .returned (.int .i64 (checkL l)) ∧ Below w.heap.size w w' := by
  have hl := h.rows (sz := 23) (f := cC) (fun q => rfl) (by decide)
  have hcap := h.cap
  unfold maxLen at hcap
  obtain ⟨hca, hcb⟩ := hcap
  subst hl
  go_enter Try.func29, Try.ntmps29
  go_wp2
  go_loopw [3] (fun i wr => ∃ k : Nat, k ≤ l.length ∧ i = .int .i64 k ∧ Below w.heap.size w wr ∧ Hid (checkL l = checkAt l k)) (fun i _ => l.length - (intOf i).toNat)
  case atStart => exact ⟨0, Nat.zero_le _, rfl, Below.refl _ _, (checkAt_zero l).symm⟩
  case round =>
    obtain ⟨k, hk, rfl, hbel, hch⟩ := hrel
    by_cases hlt : k < l.length
    · have hki : (k : Int) < l.length := by omega
      have hk0 : (0 : Int) ≤ (k : Int) := by omega
      have hRr := h.below hbel
      obtain ⟨b, off, rfl, hb, hx⟩ := hRr.changes hlt
      have hxi := hx k hlt
      clear hx
      go_wp2_with fail
      refine (refRight_any l[k] _).mono ?_
      rintro e w2 ⟨rfl, hb2⟩
      have hB2 := bel_call hbel hb2
      have hR2 := hRr.below hb2
      have hk2 := (ch_parts (hR2.ch hlt)).2.2.2.1
      clear hxi hRr hb2 hbel hb
      cases hr : rightB l[k] with
      | false =>
        have hfin := Lib.hid (checkAt_bad hlt hr)
        clear hr
        go_wp2
        go_ret
        exact ⟨ret_int (by rw [hch.out, hfin.out]), hB2⟩
      | true =>
        rcases k with _ | k
        · have hfin := Lib.hid (checkAt_first hlt hr)
          have hg0 : ((0 : Nat) : Int) = 0 := rfl
          clear hr
          go_wp2
          go_quiet (fail)
          have hB3 := below_drews hB2 nq
          clear hk2 hR2 hB2
          generalize w2.drewN nq = w3 at *
          go_wp2
          go_roundw
          case rel => exact ⟨1, by omega, by simp, hB3, hch.out.trans hfin.out⟩
          case measure => simp [intOf]; omega
        · have hcn := Lib.hid (hr)
          have b0 : (0 : Int) ≤ (k : Int) := by omega
          have b1 : (k : Int) < l.length := by omega
          have b2 : (0 : Int) ≤ (k : Int) + 1 := by omega
          have b3 : (k : Int) + 1 < l.length := by omega
          have b4 : ((k : Int) + 1).toNat = k + 1 := by omega
          have b5 : IntKind.i64.wrap ((k : Int) + 1 - 1) = k := by rw [IntWalk.i64_in _ (by omega)]; omega
          have b6 : IntKind.i64.wrap (k : Int) = k := IntWalk.i64_in _ (by omega)
          have b7 : decide ((0 : Int) < (k : Int) + 1) = true := decide_eq_true (by omega)
          have hp2 := (ch_parts (hR2.ch (j := k) (by omega))).2.2.2.1
          clear hr
          have hpk := Lib.hid hp2
          have hkk := Lib.hid hk2
          clear hp2 hk2
          go_wp2
          have hp2 := hpk.out
          have hk2 := hkk.out
          clear hpk hkk
          cases hq : lessK l[k].o.k l[k + 1].o.k with
          | true =>
            have hfin := Lib.hid (checkAt_next hlt hcn.out hq)
            go_region_held3 (fun w' => kyAt w' b (off + k * 23 + 1) = some l[k].o.k ∧ kyAt w' b (off + (k + 1) * 23 + 1) = some l[k + 1].o.k) (first | exact ⟨ky_drew hp2, ky_drew hk2⟩ | exact ⟨kyAt_later (ky_drew hp2) hb3, kyAt_later (ky_drew hk2) hb3⟩) (first | (go_at_call 40; refine (refLess_any _ _ _).mono ?_; rintro e w3 ⟨rfl, hb3⟩))
            have hB3 := bel_drew hB2 hb3
            clear hp2 hk2 hb3 hB2 hR2 hq
            go_wp2
            go_roundw
            case rel => exact ⟨k + 2, by omega, by go_num, hB3, hch.out.trans hfin.out⟩
            case measure => simp [intOf]; omega
          | false =>
            have hfin := Lib.hid (checkAt_order hlt hcn.out hq)
            go_region_held3 (fun w' => kyAt w' b (off + k * 23 + 1) = some l[k].o.k ∧ kyAt w' b (off + (k + 1) * 23 + 1) = some l[k + 1].o.k) (first | exact ⟨ky_drew hp2, ky_drew hk2⟩ | exact ⟨kyAt_later (ky_drew hp2) hb3, kyAt_later (ky_drew hk2) hb3⟩) (first | (go_at_call 40; refine (refLess_any _ _ _).mono ?_; rintro e w3 ⟨rfl, hb3⟩))
            have hB3 := bel_drew hB2 hb3
            clear hp2 hk2 hb3 hB2 hR2 hq
            go_wp2
            go_ret
            exact ⟨ret_int (by rw [hch.out, hfin.out]), hB3⟩
    · obtain rfl : k = l.length := by omega
      have hfin := Lib.hid (checkAt_end (Nat.le_refl l.length))
      go_wp2
      go_ret
      exact ⟨ret_int (by rw [hch.out, hfin.out]), hbel⟩

/-- Where the change of a key stands. -/
def AtPost (l : List Ch) (k : Ky) (w : World) (e : Ending) (w' : World) : Prop := ((∃ i x, l[i]? = some x ∧ e = .returned (.int .i64 (i : Nat)) ∧ atC l k = some x) ∨ (e = .returned (.int .i64 (-1)) ∧ atC l k = none)) ∧ Below w.heap.size w w'
theorem atC_take {l : List Ch} {k : Ky} {j : Nat} (hj : j < l.length) (h : atC (l.take j) k = none) : (l[j].o.k = k → atC l k = some l[j]) ∧ (l[j].o.k ≠ k → atC (l.take (j + 1)) k = none) := by
  have hs : l = l.take j ++ l[j] :: l.drop (j + 1) := by rw [← List.drop_eq_getElem_cons hj, List.take_append_drop]
  constructor
  · intro e
    conv => lhs; rw [hs]
    unfold atC at h ⊢
    rw [List.find?_append, h, List.find?_cons_of_pos (by simpa using e)]
    rfl
  · intro e
    rw [List.take_succ_eq_append_getElem hj]
    unfold atC at h ⊢
    rw [List.find?_append, h]
    simp [e]
set_option maxHeartbeats 1000000 in
theorem at_any (A : Option Addr) (n c : Nat) (l : List Ch) (k : Ky) (w : World) (h : Rd w 23 (.slice A n c) n (l.flatMap cC)) :
    Calls Try.prog 47 #[.slice A n c, vK k] w (AtPost l k w) := by
  have hl := h.rows (sz := 23) (f := cC) (fun q => rfl) (by decide)
  have hcap := h.cap
  unfold maxLen at hcap
  obtain ⟨hca, hcb⟩ := hcap
  subst hl
  go_enter Try.func47, Try.ntmps47
  go_wp2
  have hB : Below w.heap.size w (w.alloc (Obj.cells (cK k).toArray 47)) := bel_alloc (Below.refl _ _) _
  have hk0 : kyAt (w.alloc (Obj.cells (cK k).toArray 47)) w.heap.size 0 = some k := by go_simp
  generalize (w.alloc (Obj.cells (cK k).toArray 47)) = W at *
  go_loopw [5] (fun i wr => ∃ j : Nat, j ≤ l.length ∧ i = .int .i64 j ∧ Below w.heap.size w wr ∧ kyAt wr w.heap.size 0 = some k ∧ Hid (atC (l.take j) k = none)) (fun i _ => l.length - (intOf i).toNat)
  case atStart => exact ⟨0, Nat.zero_le _, rfl, hB, hk0, rfl⟩
  case round =>
    obtain ⟨j, hj, rfl, hbel, hk, hno⟩ := hrel
    clear hk0 hB
    by_cases hlt : j < l.length
    · have hji : (j : Int) < l.length := by omega
      have hj0 : (0 : Int) ≤ (j : Int) := by omega
      obtain ⟨b, off, rfl, hb, hx⟩ := (h.below hbel).changes hlt
      have hxk := (ch_parts (hx j hlt)).2.2.2.1
      clear hx
      have ht := atC_take hlt hno.out
      go_wp2
      by_cases he : l[j].o.k = k
      · have hfin := Lib.hid (ht.1 he)
        have heb : decide (l[j].o.k = k) = true := decide_eq_true he
        clear ht he
        go_quiet (fail)
        have hbel' := below_drews hbel nq
        clear hk hxk hbel hno h hb
        generalize wr.drewN nq = wq at *
        go_wp2
        go_ret
        exact ⟨.inl ⟨j, l[j], List.getElem?_eq_getElem hlt, rfl, hfin.out⟩, hbel'⟩
      · have hnx := Lib.hid (ht.2 he)
        have heb : decide (l[j].o.k = k) = false := decide_eq_false he
        clear ht he
        go_quiet (fail)
        have hk' := kyAt_dN hk nq
        have hbel' := below_drews hbel nq
        clear hk hxk hbel hno hb
        generalize wr.drewN nq = wq at *
        go_wp2
        go_roundw
        case rel => exact ⟨j + 1, by omega, by go_num, hbel', hk', hnx.out⟩
        case measure => simp [intOf]; omega
    · obtain rfl : j = l.length := by omega
      have hfin : Hid (atC l k = none) := by have := hno.out; rwa [List.take_length] at this
      clear hno
      go_wp2
      go_ret
      exact ⟨.inr ⟨rfl, hfin.out⟩, hbel⟩
end Go.Proofs.Ytdefpphfbpkeaaa
