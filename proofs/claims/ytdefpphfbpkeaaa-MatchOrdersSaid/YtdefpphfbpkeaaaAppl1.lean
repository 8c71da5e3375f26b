/-
  The walks: items without a key (the reference), changes the other way round, whether items are the same.
-/
import Derived.Test.YtdefpphfbpkeaaaAppP
import Derived.Test.YtdefpphfbpkeaaaDiff5
namespace Go.Proofs.Ytdefpphfbpkeaaa
open Go.RowKit
set_option linter.unusedVariables false

set_option maxHeartbeats 2000000 in
theorem refWithout_any (A : Option Addr) (n c : Nat) (l : List It) (k : Ky) (w : World) (h : Rd w 11 (.slice A n c) n (l.flatMap cI)) (hn : n ≤ 100000) :
    Calls Try.prog 51 #[.slice A n c, vK k] w (RowPost (woL l k) w) := by
  obtain ⟨i0, hi, hz0, hz1, hz2⟩ := info_parts Try.infoI
  have hl := h.rows (sz := 11) (f := cI) (fun q => rfl) (by decide)
  have hcap := h.cap
  unfold maxLen at hcap
  obtain ⟨hca, hcb⟩ := hcap
  subst hl
  go_enter Try.func51, Try.ntmps51
  go_wp2
  obtain ⟨W1, hW1⟩ : ∃ W1, W1 = w.alloc (Obj.cells (cK k).toArray 47) := ⟨_, rfl⟩
  have hk1 : kyAt W1 w.heap.size 0 = some k := by rw [hW1]; go_simp
  have hB1 : Below w.heap.size w W1 := by rw [hW1]; exact bel_alloc (Below.refl _ _) _
  have hz : W1.heap.size = w.heap.size + 1 := by rw [hW1]; simp
  have hB : Below W1.heap.size W1 (W1.alloc (Obj.cells #[] 51)) := bel_alloc (Below.refl _ _) _
  have hown0 : (W1.alloc (Obj.cells #[] 51)).ownsRow W1.heap.size 51 11 (.slice (some ⟨w.heap.size + 1, 0, none⟩) 0 0) 0 [] := by
    rw [← hz]; exact World.ownsRow_lit W1 #[] 0 (Nat.le_refl _) (by unfold maxLen; omega) rfl
  rw [← hW1]
  have hR1 := h.below hB1
  generalize (W1.alloc (Obj.cells #[] 51)) = W at *
  clear hW1 h
  go_loopw [5, 6] (fun va i wr => ∃ j : Nat, j ≤ l.length ∧ i = .int .i64 j ∧ wr.ownsRow W1.heap.size 51 11 va ((l.take j).filter (notK k)).length (((l.take j).filter (notK k)).flatMap cI) ∧ Below W1.heap.size W1 wr) (fun _ i _ => l.length - (intOf i).toNat)
  case atStart => exact ⟨0, Nat.zero_le _, rfl, hown0, hB⟩
  case round =>
    obtain ⟨j, hj, rfl, hoa, hbel⟩ := hrel
    clear hB hown0
    have hk := kyAt_later hk1 hbel
    by_cases hlt : j < l.length
    · have hji : (j : Int) < l.length := by omega
      have hj0 : (0 : Int) ≤ (j : Int) := by omega
      have hRr := hR1.below hbel
      obtain ⟨b, off, rfl, hb, hx⟩ := hRr.items hlt
      obtain ⟨hxi, hxk⟩ := hx j hlt
      clear hx hRr
      have hfa := filter_take (notK k) l j hlt
      have hla := filter_len (notK k) (l.take j)
      rw [List.length_take] at hla
      generalize hla' : (l.take j).filter (notK k) = La at *
      clear hla'
      go_wp2
      by_cases he : l[j].k = k
      · have heb : decide (l[j].k = k) = true := decide_eq_true he
        have Hfa := Lib.hid (show (l.take (j + 1)).filter (notK k) = La by rw [hfa]; unfold notK; rw [heb]; simp)
        clear hfa he
        go_quiet (fail)
        have hbel' := below_drews hbel nq
        have hoa' := own_below hoa (below_drews (Below.refl _ _) nq)
        clear hk hxi hxk hbel hoa hb
        generalize wr.drewN nq = wq at *
        go_wp2
        go_roundw
        case rel => exact ⟨j + 1, by omega, by go_num, by rw [Hfa.out]; exact hoa', hbel'⟩
        case measure => simp [intOf]; omega
      · have heb : decide (l[j].k = k) = false := decide_eq_false he
        have Hfa := Lib.hid (show (l.take (j + 1)).filter (notK k) = La ++ [l[j]] by rw [hfa]; unfold notK; rw [heb]; rfl)
        clear hfa he
        go_quiet (fail)
        have hbel' := below_drews hbel nq
        have hoa' := own_below hoa (below_drews (Below.refl _ _) nq)
        have hxi' := itAt_dN hxi nq
        have hsz' := hbel'.size
        clear hk hxi hxk hbel hoa hb
        generalize wr.drewN nq = wq at *
        go_wp2_with (at_builtin; refine wpList_push_at rfl _ _ 22 rfl W1.heap.size 51 i0 (vI (noneI k0)) 11 96 Try.underlying22 hi hz0 hz1 hz2 rfl (by decide) _ _ _ rfl hoa' _ _ rfl rfl (by simp) (cI_one _) ?c1 ?c2 hsz' hbel' ?_)
        case c1 => unfold maxLen; omega
        case c2 => omega
        intro v' w2 hoa2 hg2 hm2 hbel2 hsz2
        clear hoa' hxi' hg2 hm2 hbel'
        go_wp2
        go_roundw
        case rel => exact ⟨j + 1, by omega, by go_num, by rw [Hfa.out, List.length_append, flat_snoc, hz]; exact hoa2, by rw [hz]; exact hbel2⟩
        case measure => simp [intOf]; omega
    · obtain rfl : j = l.length := by omega
      rw [List.take_length] at hoa
      go_wp2
      go_ret
      obtain ⟨A3, c3, rfl⟩ := own_form hoa
      exact ⟨A3, c3, rfl, own_low hoa (by omega), bel_call hB1 hbel⟩

theorem turned_any (k : Int) (w : World) : Calls Try.prog 52 #[.int .i64 k] w fun e w' => e = .returned (.int .i64 (turnK k)) ∧ w = w' := by
  by_cases h1 : k = 1
  · subst h1
    go_enter Try.func52, Try.ntmps52
    go_wp2
    go_ret
    exact ⟨rfl, rfl⟩
  · have hb1 : (k == 1) = false := by simpa using h1
    by_cases h2 : k = 2
    · subst h2
      go_enter Try.func52, Try.ntmps52
      go_wp2
      go_ret
      exact ⟨rfl, rfl⟩
    · have hb2 : (k == 2) = false := by simpa using h2
      have hf := Lib.hid (show turnK k = k by unfold turnK; rw [if_neg h1, if_neg h2])
      clear h1 h2
      go_enter Try.func52, Try.ntmps52
      go_wp2
      go_ret
      exact ⟨by rw [hf.out]; rfl, rfl⟩

set_option maxHeartbeats 1000000 in
theorem sameI_any (A1 A2 : Option Addr) (n1 c1 n2 c2 : Nat) (l1 l2 : List It) (w : World) (h1 : Rd w 11 (.slice A1 n1 c1) n1 (l1.flatMap cI)) (h2 : Rd w 11 (.slice A2 n2 c2) n2 (l2.flatMap cI)) :
    Calls Try.prog 28 #[.slice A1 n1 c1, .slice A2 n2 c2] w fun e w' => e = .returned (.bool (decide (l1 = l2))) ∧ Below w.heap.size w w' := by
  have hl1 := h1.rows (sz := 11) (f := cI) (fun q => rfl) (by decide)
  have hl2 := h2.rows (sz := 11) (f := cI) (fun q => rfl) (by decide)
  have hcap1 := h1.cap
  have hcap2 := h2.cap
  unfold maxLen at hcap1 hcap2
  obtain ⟨hca1, hcb1⟩ := hcap1
  obtain ⟨hca2, hcb2⟩ := hcap2
  subst hl1 hl2
  by_cases hne : l1.length = l2.length
  · have hne1 : ((l1.length : Int) != l2.length) = false := by rw [bne_eq_false_iff_eq]; omega
    have hle : l1.length ≤ l2.length ∧ l2.length ≤ l1.length := by omega
    have hE := Lib.hid hne
    clear hne
    obtain ⟨hle1, hle2⟩ := hle
    go_enter Try.func28, Try.ntmps28
    go_wp2
    go_loopw [5] (fun i wr => ∃ k : Nat, k ≤ l1.length ∧ i = .int .i64 k ∧ Below w.heap.size w wr ∧ Hid (∀ j (hj : j < l1.length) (hj' : j < l2.length), j < k → l1[j] = l2[j])) (fun i _ => l1.length - (intOf i).toNat)
    case atStart => exact ⟨0, Nat.zero_le _, rfl, Below.refl _ _, fun j _ _ hj => absurd hj (by omega)⟩
    case round =>
      obtain ⟨k, hk, rfl, hbel, hall⟩ := hrel
      by_cases hlt : k < l1.length
      · have hlt2 : k < l2.length := by omega
        have hlti : (k : Int) < l1.length := by omega
        have hlti2 : (k : Int) < l2.length := by omega
        obtain ⟨b1, o1, rfl, hb1, hx1⟩ := (h1.below hbel).items hlt
        obtain ⟨b2, o2, rfl, hb2, hx2⟩ := (h2.below hbel).items hlt2
        have hxa := (hx1 k hlt).1
        have hxb := (hx2 k hlt2).1
        clear hx1 hx2
        go_wp2
        by_cases he : l1[k] = l2[k]
        · have heb : decide (l1[k] = l2[k]) = true := decide_eq_true he
          have hS := Lib.hid he
          clear he
          go_quiet (fail)
          have hbel' := below_drews hbel nq
          clear hxa hxb hb1 hb2 hbel
          generalize wr.drewN nq = wq at *
          go_wp2
          go_roundw
          case rel => exact ⟨k + 1, by omega, by go_num, hbel', fun j hj hj' hjk => by
            by_cases e : j = k
            · subst e; exact hS.out
            · exact hall.out j hj hj' (by omega)⟩
          case measure => simp [intOf]; omega
        · have heb : decide (l1[k] = l2[k]) = false := decide_eq_false he
          have hD : Hid (¬ l1 = l2) := fun e => he (by subst e; rfl)
          clear he
          go_quiet (fail)
          have hbel' := below_drews hbel nq
          clear hxa hxb hb1 hb2 hbel
          generalize wr.drewN nq = wq at *
          go_wp2
          go_ret
          exact ⟨ret_bool (decide_eq_false hD.out).symm, hbel'⟩
      · obtain rfl : k = l1.length := by omega
        go_wp2
        go_ret
        exact ⟨ret_bool (decide_eq_true (List.ext_getElem hE.out fun j a b => hall.out j a b a)).symm, hbel⟩
  · have hne1 : ((l1.length : Int) != l2.length) = true := by rw [bne_iff_ne]; omega
    go_enter Try.func28, Try.ntmps28
    go_wp2
    go_ret
    refine ⟨ret_bool (Eq.symm (decide_eq_false ?_)), Below.refl _ _⟩
    intro e
    exact hne (by rw [e])

theorem back_take (l : List Ch) (k : Nat) (h : k < l.length) : (backL (l.take (k + 1))).flatMap cC = (backL (l.take k)).flatMap cC ++ cC (backC l[k]) := by
  unfold backL
  rw [List.take_succ_eq_append_getElem h, List.map_append, List.flatMap_append]
  simp
set_option maxHeartbeats 1000000 in
theorem refBack_any (A : Option Addr) (n c : Nat) (l : List Ch) (w : World) (h : Rd w 23 (.slice A n c) n (l.flatMap cC)) (hn : n ≤ 100000) :
    Calls Try.prog 31 #[.slice A n c] w fun e w' => ∃ A' c', e = .returned (.slice A' n c') ∧ w'.ownsRow w.heap.size 54 23 (.slice A' n c') n ((backL l).flatMap cC) ∧ Below w.heap.size w w' := by
  obtain ⟨i0, hi, hz0, hz1, hz2⟩ := info_parts Try.infoD
  have hl := h.rows (sz := 23) (f := cC) (fun q => rfl) (by decide)
  have hcap := h.cap
  unfold maxLen at hcap
  obtain ⟨hca, hcb⟩ := hcap
  subst hl
  go_enter Try.func31, Try.ntmps31
  go_wp2
  go_loopw [3, 4] (fun v i wr => ∃ k : Nat, k ≤ l.length ∧ i = .int .i64 k ∧ wr.ownsRow w.heap.size 54 23 v k ((backL (l.take k)).flatMap cC) ∧ Below w.heap.size w wr) (fun _ i _ => l.length - (intOf i).toNat)
  case atStart => exact ⟨0, Nat.zero_le _, rfl, World.ownsRow_lit w #[] 0 (Nat.le_refl _) (by unfold maxLen; omega) rfl, bel_alloc (Below.refl _ _) _⟩
  case round =>
    obtain ⟨k, hk, rfl, hown, hbel⟩ := hrel
    by_cases hlt : k < l.length
    · have hki : (k : Int) < l.length := by omega
      obtain ⟨b, off, rfl, hb, hx⟩ := (h.below hbel).changes hlt
      have hxi := hx k hlt
      obtain ⟨p0, p1, p2, p3, p4⟩ := ch_parts hxi
      have hsn := Lib.hid (back_take l k hlt)
      have hszr := hbel.size
      clear hx hb
      have p1k := Lib.hid (ch_parts (h.ch hlt)).2.1
      have p2k := Lib.hid (ch_parts (h.ch hlt)).2.2.1
      clear hxi p3 p4 p1 p2
      by_cases h1 : l[k].kd = 1
      · have hbk := Lib.hid (show backC l[k] = ⟨2, l[k].n, l[k].o⟩ by unfold backC turnK; rw [if_pos h1])
        rw [h1] at p0
        clear h1
        go_wp2
        have hbelD := hbel.drew
        have hownD := hown.drew
        clear hbel hown
        have p1 := p1k.out
        have p2 := p2k.out
        go_region_held3 (fun w' => itAt w' b (off + k * 23 + 1) = some l[k].o ∧ itAt w' b (off + k * 23 + 12) = some l[k].n) (first | exact ⟨itAt_later p1 (by assumption), itAt_later p2 (by assumption)⟩ | exact ⟨itAt_later p1 (bel_alloc hbelD _), itAt_later p2 (bel_alloc hbelD _)⟩) ((refine step_push_at rfl _ _ 30 (by rfl) w.heap.size 54 i0 (vC ⟨0, noneI k0, noneI k0⟩) 23 200 (by kernel_rfl) hi hz0 hz1 hz2 rfl (by decide) _ _ _ (by rfl) hownD _ _ (by rfl) (by rfl) (by simp) (cC_one _) (by unfold maxLen; omega) (by omega) hbelD.size hbelD ?_; intro v' w5 ho5 hg5 hm5 hB5 hs5))
        clear hbelD hownD hg5 hm5 p1 p2
        go_wp2
        go_roundw
        case rel => exact ⟨k + 1, by omega, by go_num, by rw [hsn.out, hbk.out]; exact ho5, hB5⟩
        case measure => simp [intOf]; omega
      · have hb1 : (l[k].kd == 1) = false := by simpa using h1
        by_cases h2 : l[k].kd = 2
        · have hbk := Lib.hid (show backC l[k] = ⟨1, l[k].n, l[k].o⟩ by unfold backC turnK; rw [if_neg h1, if_pos h2])
          rw [h2] at p0
          clear h1 h2 hb1
          go_wp2
          have hbelD := hbel.drew
          have hownD := hown.drew
          clear hbel hown
          have p1 := p1k.out
          have p2 := p2k.out
          go_region_held3 (fun w' => itAt w' b (off + k * 23 + 1) = some l[k].o ∧ itAt w' b (off + k * 23 + 12) = some l[k].n) (first | exact ⟨itAt_later p1 (by assumption), itAt_later p2 (by assumption)⟩ | exact ⟨itAt_later p1 (bel_alloc hbelD _), itAt_later p2 (bel_alloc hbelD _)⟩) ((refine step_push_at rfl _ _ 30 (by rfl) w.heap.size 54 i0 (vC ⟨0, noneI k0, noneI k0⟩) 23 200 (by kernel_rfl) hi hz0 hz1 hz2 rfl (by decide) _ _ _ (by rfl) hownD _ _ (by rfl) (by rfl) (by simp) (cC_one _) (by unfold maxLen; omega) (by omega) hbelD.size hbelD ?_; intro v' w5 ho5 hg5 hm5 hB5 hs5))
          clear hbelD hownD hg5 hm5 p1 p2
          go_wp2
          go_roundw
          case rel => exact ⟨k + 1, by omega, by go_num, by rw [hsn.out, hbk.out]; exact ho5, hB5⟩
          case measure => simp [intOf]; omega
        · have hb2 : (l[k].kd == 2) = false := by simpa using h2
          have hbk := Lib.hid (show backC l[k] = ⟨l[k].kd, l[k].n, l[k].o⟩ by unfold backC turnK; rw [if_neg h1, if_neg h2])
          clear h1 h2
          go_wp2
          have hbelD := hbel.drew
          have hownD := hown.drew
          clear hbel hown
          have p1 := p1k.out
          have p2 := p2k.out
          go_region_held3 (fun w' => itAt w' b (off + k * 23 + 1) = some l[k].o ∧ itAt w' b (off + k * 23 + 12) = some l[k].n) (first | exact ⟨itAt_later p1 (by assumption), itAt_later p2 (by assumption)⟩ | exact ⟨itAt_later p1 (bel_alloc hbelD _), itAt_later p2 (bel_alloc hbelD _)⟩) ((refine step_push_at rfl _ _ 30 (by rfl) w.heap.size 54 i0 (vC ⟨0, noneI k0, noneI k0⟩) 23 200 (by kernel_rfl) hi hz0 hz1 hz2 rfl (by decide) _ _ _ (by rfl) hownD _ _ (by rfl) (by rfl) (by simp) (cC_one _) (by unfold maxLen; omega) (by omega) hbelD.size hbelD ?_; intro v' w5 ho5 hg5 hm5 hB5 hs5))
          clear hbelD hownD hg5 hm5 p1 p2
          go_wp2
          go_roundw
          case rel => exact ⟨k + 1, by omega, by go_num, by rw [hsn.out, hbk.out]; exact ho5, hB5⟩
          case measure => simp [intOf]; omega
    · obtain rfl : k = l.length := by omega
      rw [List.take_length] at hown
      go_wp2
      go_ret
      obtain ⟨A3, c3, rfl⟩ := own_form hown
      exact ⟨A3, c3, rfl, hown, hbel⟩

theorem rdAt_grown {α : Type} {f : α → List Value} {w w' : World} {row : Option Nat} (hg : w.grownBy w' row) {b o : Nat} {x : α} (hx : rdAt f w b o = some x) (hb : b < w.heap.size) (hne : some b ≠ row) : rdAt f w' b o = some x :=
  (rdAt_cells fun o => by unfold World.cell?; rw [hg.block b hb hne]).trans hx
set_option maxHeartbeats 1000000 in
set_option maxRecDepth 20000 in
theorem dBack_any (A : Option Addr) (n c : Nat) (l : List Ch) (w : World) (h : Rd w 23 (.slice A n c) n (l.flatMap cC)) (hn : n ≤ 100000) :
    Calls Try.prog 30 #[.slice A n c] w fun e w' => ∃ A' c', e = .returned (.slice A' n c') ∧ w'.ownsRow w.heap.size 53 23 (.slice A' n c') n ((backL l).flatMap cC) ∧ Below w.heap.size w w' := by
  obtain ⟨i0, hi, hz0, hz1, hz2⟩ := info_parts Try.infoC
  have hl := h.rows (sz := 23) (f := cC) (fun q => rfl) (by decide)
  have hcap := h.cap
  unfold maxLen at hcap
  obtain ⟨hca, hcb⟩ := hcap
  subst hl
  go_enter Try.func30, Try.ntmps30
  go_wp2
  go_loopw [3, 8] (fun v i wr => ∃ k : Nat, k ≤ l.length ∧ i = .int .i64 k ∧ wr.ownsRow w.heap.size 53 23 v k ((backL (l.take k)).flatMap cC) ∧ Below w.heap.size w wr) (fun _ i _ => l.length - (intOf i).toNat)
  case atStart => exact ⟨0, Nat.zero_le _, rfl, World.ownsRow_nil _ _ _ _, Below.refl _ _⟩
  case round =>
    obtain ⟨k, hk, rfl, hown, hbel⟩ := hrel
    by_cases hlt : k < l.length
    · have hki : (k : Int) < l.length := by omega
      obtain ⟨b, off, rfl, hb, hx⟩ := (h.below hbel).changes hlt
      have hxi := hx k hlt
      have hsn := Lib.hid (back_take l k hlt)
      clear hx hb
      have hbelA := bel_alloc hbel (.cells (cC l[k]).toArray 53)
      have hownA := hown.alloc (.cells (cC l[k]).toArray 53)
      have hcA := chAt_new wr l[k] 53 wr.heap.size rfl
      go_wp2
      obtain ⟨q0, q1, q2, q3, q4⟩ := ch_parts hcA
      rw [Nat.zero_add] at q1 q2 q3 q4
      clear hcA hxi hbel q3 q4 h
      have hne : some wr.heap.size ≠ u3.ownBlock := fun e => by
        have := (hown.lt _ e.symm).2
        omega
      have hg : wr.heap.size < (wr.alloc (.cells (cC l[k]).toArray 53)).heap.size := by simp
      generalize wr.alloc (.cells (cC l[k]).toArray 53) = W at *
      have hbelD := hbelA.drew
      have hownD := hownA.drew
      clear hbelA hownA hown
      have hal : ∀ o : Obj, (W.alloc o).drew.cell? ⟨wr.heap.size, 0, none⟩ = some (.int .i64 l[k].kd) ∧ itAt (W.alloc o).drew wr.heap.size 1 = some l[k].o ∧ itAt (W.alloc o).drew wr.heap.size 12 = some l[k].n := fun o =>
        ⟨(World.cell?_alloc_past o _ 0 hg).trans q0, it_drew (itAt_later q1 (bel_alloc (Below.refl _ _) o)), it_drew (itAt_later q2 (bel_alloc (Below.refl _ _) o))⟩
      go_region_held3 (fun w' => w'.cell? ⟨wr.heap.size, 0, none⟩ = some (.int .i64 l[k].kd) ∧ itAt w' wr.heap.size 1 = some l[k].o ∧ itAt w' wr.heap.size 12 = some l[k].n) (first | exact ⟨q0, it_drew q1, it_drew q2⟩ | exact hal _ | exact ⟨hg5.cell q0 hne, rdAt_grown hg5 (it_drew q1) hg hne, rdAt_grown hg5 (it_drew q2) hg hne⟩) (first | (go_at_call 52; refine (turned_any _ _).mono ?_; rintro e w4 ⟨rfl, rfl⟩) | (refine step_push_at rfl _ _ 25 (by rfl) w.heap.size 53 i0 (vC ⟨0, noneI k0, noneI k0⟩) 23 200 (by kernel_rfl) hi hz0 hz1 hz2 rfl (by decide) _ _ _ (by rfl) hownD _ _ (by rfl) (by rfl) (by simp) (cC_one _) (by unfold maxLen; omega) (by omega) hbelD.size hbelD ?_; intro v' w5 ho5 hg5 hm5 hB5 hs5))
      clear q0 q1 q2 hg hne hbelD hownD hg5 hm5 hal
      go_wp2
      go_roundw
      case rel => exact ⟨k + 1, by omega, by go_num, by rw [hsn.out]; exact ho5, hB5⟩
      case measure => simp [intOf]; omega
    · obtain rfl : k = l.length := by omega
      rw [List.take_length] at hown
      go_wp2
      go_ret
      obtain ⟨A3, c3, rfl⟩ := own_form hown
      exact ⟨A3, c3, rfl, hown, hbel⟩
end Go.Proofs.Ytdefpphfbpkeaaa
