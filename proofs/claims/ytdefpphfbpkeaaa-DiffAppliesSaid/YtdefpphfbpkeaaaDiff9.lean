/-
  What makes one list of another one.
-/
import Derived.Test.YtdefpphfbpkeaaaDiff8
namespace Go.Proofs.Ytdefpphfbpkeaaa
open Go.RowKit
set_option linter.unusedVariables false

def lenOf : Value → Nat
  | .slice _ n _ => n
  | _ => 0
theorem own_drews {w : World} {B : Nat} {e : TypeId} {sz n : Nat} {v : Value} {xs : List Value} (h : w.ownsRow B e sz v n xs) (k : Nat) : (w.drewN k).ownsRow B e sz v n xs := own_below h (below_drews (Below.refl _ _) k)
theorem ofGo_nil (f : Nat) : ofGo f [] [] = [] := by cases f <;> rfl
theorem head_at {w : World} {A : Option Addr} {c : Nat} {x : It} {r : List It} (h : Rd w 11 (.slice A (r.length + 1) c) (r.length + 1) ((x :: r).flatMap cI)) :
    ∃ b off, A = some ⟨b, off, none⟩ ∧ itAt w b off = some x ∧ Rd w 11 (.slice (cutA 11 A c 1) r.length (c - 1)) r.length (r.flatMap cI) ∧ 1 ≤ c ∧ r.length + 1 ≤ c ∧ c ≤ maxLen := by
  have hc := h.cap
  obtain ⟨b, off, rfl, _, hx⟩ := h.items (k := 0) (by simp)
  have h0 := (hx 0 (by simp)).1
  rw [Nat.zero_mul, Nat.add_zero] at h0
  exact ⟨b, off, rfl, h0, h.tail (cI_len x), by omega, hc.1, hc.2⟩

set_option maxHeartbeats 1000000 in
set_option maxRecDepth 100000 in
theorem of_any (A1 A2 : Option Addr) (n1 c1 n2 c2 : Nat) (a b : List It) (w : World) (h1 : Rd w 11 (.slice A1 n1 c1) n1 (a.flatMap cI)) (h2 : Rd w 11 (.slice A2 n2 c2) n2 (b.flatMap cI)) (hn1 : n1 ≤ 20000) (hn2 : n2 ≤ 20000) (hra : risB a = true) (hrb : risB b = true) :
    Calls Try.prog 13 #[.slice A1 n1 c1, .slice A2 n2 c2] w fun e w' => ∃ A' c', e = .returned (.tuple #[.slice A' (ofL a b).length c', .int .i64 0]) ∧ w'.ownsRow w.heap.size 53 23 (.slice A' (ofL a b).length c') (ofL a b).length ((ofL a b).flatMap cC) ∧ Below w.heap.size w w' := by
  obtain ⟨i1, hi1, hy0, hy1, hy2⟩ := info_parts Try.infoC
  have hl1 := h1.rows (sz := 11) (f := cI) (fun q => rfl) (by decide)
  have hl2 := h2.rows (sz := 11) (f := cI) (fun q => rfl) (by decide)
  subst hl1 hl2
  go_enter Try.func13, Try.ntmps13
  go_wp2_with fail
  go_step3
  go_wp2_with fail
  refine (rising_any _ _ _ a _ h1).mono ?_
  rintro e w1 ⟨rfl, hb1⟩
  rw [hra]
  have hq2 := h2.below hb1
  go_wp2_with fail
  refine (rising_any _ _ _ b _ hq2).mono ?_
  rintro e w2 ⟨rfl, hb2⟩
  rw [hrb]
  have hbel0 := bel_call hb1 hb2
  clear hq2 hb1 hb2
  go_wp2_with fail
  go_step3
  go_wp2_with fail
  go_loopw [0, 1, 6] (fun va vb vo wr => ∃ (A1 A2 : Option Addr) (c1 c2 f : Nat) (la lb : List It) (acc : List Ch), va = .slice A1 la.length c1 ∧ vb = .slice A2 lb.length c2 ∧ Rd w 11 (.slice A1 la.length c1) la.length (la.flatMap cI) ∧ Rd w 11 (.slice A2 lb.length c2) lb.length (lb.flatMap cI) ∧
      wr.ownsRow w.heap.size 53 23 vo acc.length (acc.flatMap cC) ∧ Below w.heap.size w wr ∧ la.length + lb.length ≤ f ∧ Hid (ofL a b = acc ++ ofGo f la lb) ∧ acc.length + la.length + lb.length ≤ 40000) (fun va vb _ _ => lenOf va + lenOf vb)
  case atStart => exact ⟨A1, A2, c1, c2, _, a, b, [], rfl, rfl, h1, h2, ⟨rfl, .inl ⟨rfl, rfl⟩⟩, hbel0, Nat.le_refl _, rfl, by simp; omega⟩
  case round =>
    obtain ⟨A1, A2, c1, c2, f, la, lb, acc, rfl, rfl, hR1, hR2, hown, hbel, hf, hch, hlen⟩ := hrel
    clear h1 h2 hbel0
    rcases la with _ | ⟨x, ra⟩
    · rcases lb with _ | ⟨y, rb⟩
      · rw [ofGo_nil, List.append_nil] at hch
        obtain ⟨A3, c3, rfl⟩ := own_form hown
        go_wp2
        try rw [Exit.noGoto_ret]
        go_ret2
        rw [hch.out]
        exact ⟨A3, c3, rfl, hown, hbel⟩
      · obtain ⟨f, rfl⟩ : ∃ f', f = f' + 1 := ⟨f - 1, by simp at hf; omega⟩
        simp only [List.length_cons, List.length_nil] at hR1 hR2 hf hlen ⊢
        obtain ⟨b2, o2, rfl, hi2, hT2, hc2, hc2', hc2m⟩ := head_at hR2
        have hk2 := kyAt_it hi2
        unfold maxLen at hc2m
        have hch' : Hid (ofL a b = (acc ++ [⟨1, noneI y.k, y⟩]) ++ ofGo f [] rb) := by show _ = _; rw [hch.out, List.append_assoc]; rfl
        have z2 : ((rb.length : Int) + 1 == 0) = false := beq_eq_false_iff_ne.2 (by omega)
        have y2 : decide ((0 : Int) < (rb.length : Int) + 1) = true := decide_eq_true (by omega)
        have x2 : (0 : Int) < (rb.length : Int) + 1 := by omega
        clear hch hR2
        go_wp2
        go_quiet (fail)
        have hbelE := below_drews hbel nq
        have hownE := own_drews hown nq
        clear hbel hown
        generalize wr.drewN nq = wq at *
        go_wp2
        go_quiet (fail)
        have hbelF := below_drews hbelE nq
        have hownF := own_drews hownE nq
        clear hbelE hownE
        generalize wq.drewN nq = wp at *
        go_wp2
        have hbelD := hbelF.drew
        have hownD := hownF.drew
        have hsD := hbelD.size
        clear hbelF hownF
        go_region_held3 (fun w' => itAt w' b2 o2 = some y ∧ kyAt w' b2 o2 = some y.k) (first | exact ⟨itAt_later hi2 (by assumption), kyAt_later hk2 (by assumption)⟩ | exact ⟨itAt_later hi2 (bel_alloc hB4 _), kyAt_later hk2 (bel_alloc hB4 _)⟩) (first | (refine step_push_at rfl _ _ 25 (by rfl) w.heap.size 53 i1 (vC ⟨0, noneI k0, noneI k0⟩) 23 200 (by kernel_rfl) hi1 hy0 hy1 hy2 rfl (by decide) _ _ _ (by rfl) ho4 _ _ (by rfl) (by rfl) (by simp) (cC_one _) (by unfold maxLen; omega) (by omega) hB4.size hB4 ?_; intro v' w5 ho5 hg5 hm5 hB5 hs5) | (go_at_call 42; refine (none_any _ _).mono ?_; rintro e w4 ⟨rfl, hb4⟩; have hB4 := bel_call hbelD hb4; have ho4 := own_below hownD hb4))
        clear hbelD hownD hB4 ho4 hb4 hg5 hm5
        go_wp2
        go_roundw
        case rel => exact ⟨A1, _, c1, _, f, [], rb, acc ++ [⟨1, noneI y.k, y⟩], rfl, rfl, hR1, hT2, by rw [List.length_append, List.flatMap_append]; simpa using ho5, hB5, by first | omega | (simp; omega), hch', by first | omega | (simp; omega)⟩
        case measure => simp [lenOf]
    · obtain ⟨f, rfl⟩ : ∃ f', f = f' + 1 := ⟨f - 1, by simp at hf; omega⟩
      rcases lb with _ | ⟨y, rb⟩
      · simp only [List.length_cons, List.length_nil] at hR1 hR2 hf hlen ⊢
        obtain ⟨b1, o1, rfl, hi1x, hT1, hc1, hc1', hc1m⟩ := head_at hR1
        have hk1 := kyAt_it hi1x
        unfold maxLen at hc1m
        have hch' : Hid (ofL a b = (acc ++ [⟨2, x, noneI x.k⟩]) ++ ofGo f ra []) := by show _ = _; rw [hch.out, List.append_assoc]; rfl
        have z1 : ((ra.length : Int) + 1 == 0) = false := beq_eq_false_iff_ne.2 (by omega)
        have y1 : decide ((0 : Int) < (ra.length : Int) + 1) = true := decide_eq_true (by omega)
        have x1 : (0 : Int) < (ra.length : Int) + 1 := by omega
        clear hch hR1
        go_wp2
        go_quiet (fail)
        have hbelE := below_drews hbel nq
        have hownE := own_drews hown nq
        clear hbel hown
        generalize wr.drewN nq = wq at *
        go_wp2
        have hbelD := hbelE.drew
        have hownD := hownE.drew
        have hsD := hbelD.size
        clear hbelE hownE
        go_region_held3 (fun w' => itAt w' b1 o1 = some x ∧ kyAt w' b1 o1 = some x.k) (first | exact ⟨itAt_later hi1x (by assumption), kyAt_later hk1 (by assumption)⟩ | exact ⟨itAt_later hi1x (bel_alloc hB4 _), kyAt_later hk1 (bel_alloc hB4 _)⟩) (first | (refine step_push_at rfl _ _ 25 (by rfl) w.heap.size 53 i1 (vC ⟨0, noneI k0, noneI k0⟩) 23 200 (by kernel_rfl) hi1 hy0 hy1 hy2 rfl (by decide) _ _ _ (by rfl) ho4 _ _ (by rfl) (by rfl) (by simp) (cC_one _) (by unfold maxLen; omega) (by omega) hB4.size hB4 ?_; intro v' w5 ho5 hg5 hm5 hB5 hs5) | (go_at_call 42; refine (none_any _ _).mono ?_; rintro e w4 ⟨rfl, hb4⟩; have hB4 := bel_call hbelD hb4; have ho4 := own_below hownD hb4))
        clear hbelD hownD hB4 ho4 hb4 hg5 hm5
        go_wp2
        go_roundw
        case rel => exact ⟨_, A2, _, c2, f, ra, [], acc ++ [⟨2, x, noneI x.k⟩], rfl, rfl, hT1, hR2, by rw [List.length_append, List.flatMap_append]; simpa using ho5, hB5, by first | omega | (simp; omega), hch', by first | omega | (simp; omega)⟩
        case measure => simp [lenOf]
      · simp only [List.length_cons] at hR1 hR2 hf hlen ⊢
        obtain ⟨b1, o1, rfl, hi1x, hT1, hc1, hc1', hc1m⟩ := head_at hR1
        obtain ⟨b2, o2, rfl, hi2, hT2, hc2, hc2', hc2m⟩ := head_at hR2
        have hk1 := kyAt_it hi1x
        have hk2 := kyAt_it hi2
        unfold maxLen at hc1m hc2m
        have z1 : ((ra.length : Int) + 1 == 0) = false := beq_eq_false_iff_ne.2 (by omega)
        have y1 : decide ((0 : Int) < (ra.length : Int) + 1) = true := decide_eq_true (by omega)
        have x1 : (0 : Int) < (ra.length : Int) + 1 := by omega
        have z2 : ((rb.length : Int) + 1 == 0) = false := beq_eq_false_iff_ne.2 (by omega)
        have y2 : decide ((0 : Int) < (rb.length : Int) + 1) = true := decide_eq_true (by omega)
        have x2 : (0 : Int) < (rb.length : Int) + 1 := by omega
        have s1 : decide ((0 : Int) < (ra.length : Int) + 1 + ((rb.length : Int) + 1)) = true := decide_eq_true (by omega)
        have s2 : (0 : Int) < (ra.length : Int) + 1 + ((rb.length : Int) + 1) := by omega
        have hR1' := Lib.hid hR1
        have hR2' := Lib.hid hR2
        clear hR1 hR2
        have hi1' := Lib.hid hi1x
        have hi2' := Lib.hid hi2
        clear hi1x hi2
        go_wp2
        cases hq : lessK x.k y.k with
        | true =>
          have hch' : Hid (ofL a b = (acc ++ [⟨2, x, noneI x.k⟩]) ++ ofGo f ra (y :: rb)) := by show _ = _; rw [hch.out, List.append_assoc, ofGo, if_pos hq]; rfl
          clear hch
          have hbelD := hbel.drew
          have hownD := hown.drew
          clear hbel hown
          go_region_held3 (fun w' => kyAt w' b1 o1 = some x.k ∧ kyAt w' b2 o2 = some y.k) (first | exact ⟨kyAt_later hk1 (by assumption), kyAt_later hk2 (by assumption)⟩) (first | (go_at_call 39; refine (less_any _ _ _).mono ?_; rintro e w3 ⟨rfl, hb3⟩; have hbel3 := bel_call hbelD hb3; have hown3 := own_below hownD hb3))
          clear hbelD hownD hb3
          have hi1x := hi1'.out
          have hR2 : Rd w 11 (.slice (some ⟨b2, o2, none⟩) (y :: rb).length c2) (y :: rb).length ((y :: rb).flatMap cI) := hR2'.out
          clear hi1' hi2' hq hR2'
          go_wp2
          have hbelD := hbel3.drew
          have hownD := hown3.drew
          have hsD := hbelD.size
          clear hbel3 hown3
          go_region_held3 (fun w' => itAt w' b1 o1 = some x ∧ kyAt w' b1 o1 = some x.k) (first | exact ⟨itAt_later hi1x (by assumption), kyAt_later hk1 (by assumption)⟩ | exact ⟨itAt_later hi1x (bel_alloc hB4 _), kyAt_later hk1 (bel_alloc hB4 _)⟩) (first | (refine step_push_at rfl _ _ 25 (by rfl) w.heap.size 53 i1 (vC ⟨0, noneI k0, noneI k0⟩) 23 200 (by kernel_rfl) hi1 hy0 hy1 hy2 rfl (by decide) _ _ _ (by rfl) ho4 _ _ (by rfl) (by rfl) (by simp) (cC_one _) (by unfold maxLen; omega) (by omega) hB4.size hB4 ?_; intro v' w5 ho5 hg5 hm5 hB5 hs5) | (go_at_call 42; refine (none_any _ _).mono ?_; rintro e w4 ⟨rfl, hb4⟩; have hB4 := bel_call hbelD hb4; have ho4 := own_below hownD hb4))
          clear hbelD hownD hB4 ho4 hb4 hg5 hm5
          go_wp2
          go_roundw
          case rel => exact ⟨_, some ⟨b2, o2, none⟩, _, c2, f, ra, (y :: rb), acc ++ [⟨2, x, noneI x.k⟩], rfl, rfl, hT1, hR2, by rw [List.length_append, List.flatMap_append]; simpa using ho5, hB5, by first | omega | (simp; omega), hch', by first | omega | (simp; omega)⟩
          case measure => simp [lenOf]
        | false =>
          have hbelD := hbel.drew
          have hownD := hown.drew
          clear hbel hown
          go_region_held3 (fun w' => kyAt w' b1 o1 = some x.k ∧ kyAt w' b2 o2 = some y.k) (first | exact ⟨kyAt_later hk1 (by assumption), kyAt_later hk2 (by assumption)⟩) (first | (go_at_call 39; refine (less_any _ _ _).mono ?_; rintro e w3 ⟨rfl, hb3⟩; have hbel3 := bel_call hbelD hb3; have hown3 := own_below hownD hb3))
          clear hbelD hownD hb3
          go_wp2
          cases hq2 : lessK y.k x.k with
          | true =>
            have hch' : Hid (ofL a b = (acc ++ [⟨1, noneI y.k, y⟩]) ++ ofGo f (x :: ra) rb) := by show _ = _; rw [hch.out, List.append_assoc, ofGo, if_neg (by rw [hq]; decide), if_pos hq2]; rfl
            clear hch
            have hbelD := hbel3.drew
            have hownD := hown3.drew
            clear hbel3 hown3
            go_region_held3 (fun w' => kyAt w' b1 o1 = some x.k ∧ kyAt w' b2 o2 = some y.k) (first | exact ⟨kyAt_later hk1 (by assumption), kyAt_later hk2 (by assumption)⟩) (first | (go_at_call 39; refine (less_any _ _ _).mono ?_; rintro e w4 ⟨rfl, hb4⟩; have hbel4 := bel_call hbelD hb4; have hown4 := own_below hownD hb4))
            clear hbelD hownD hb4
            have hi2 := hi2'.out
            have hR1 : Rd w 11 (.slice (some ⟨b1, o1, none⟩) (x :: ra).length c1) (x :: ra).length ((x :: ra).flatMap cI) := hR1'.out
            clear hi1' hi2' hq hq2 hR1' hR2'
            go_wp2
            have hbelD := hbel4.drew
            have hownD := hown4.drew
            have hsD := hbelD.size
            clear hbel4 hown4
            go_region_held3 (fun w' => itAt w' b2 o2 = some y ∧ kyAt w' b2 o2 = some y.k) (first | exact ⟨itAt_later hi2 (by assumption), kyAt_later hk2 (by assumption)⟩ | exact ⟨itAt_later hi2 (bel_alloc hB6 _), kyAt_later hk2 (bel_alloc hB6 _)⟩) (first | (refine step_push_at rfl _ _ 25 (by rfl) w.heap.size 53 i1 (vC ⟨0, noneI k0, noneI k0⟩) 23 200 (by kernel_rfl) hi1 hy0 hy1 hy2 rfl (by decide) _ _ _ (by rfl) ho6 _ _ (by rfl) (by rfl) (by simp) (cC_one _) (by unfold maxLen; omega) (by omega) hB6.size hB6 ?_; intro v' w5 ho5 hg5 hm5 hB5 hs5) | (go_at_call 42; refine (none_any _ _).mono ?_; rintro e w6 ⟨rfl, hb6⟩; have hB6 := bel_call hbelD hb6; have ho6 := own_below hownD hb6))
            clear hbelD hownD hB6 ho6 hb6 hg5 hm5
            go_wp2
            go_roundw
            case rel => exact ⟨some ⟨b1, o1, none⟩, _, c1, _, f, (x :: ra), rb, acc ++ [⟨1, noneI y.k, y⟩], rfl, rfl, hR1, hT2, by rw [List.length_append, List.flatMap_append]; simpa using ho5, hB5, by first | omega | (simp; omega), hch', by first | omega | (simp; omega)⟩
            case measure => simp [lenOf]
          | false =>
            have hbelD := hbel3.drew
            have hownD := hown3.drew
            clear hbel3 hown3
            go_region_held3 (fun w' => kyAt w' b1 o1 = some x.k ∧ kyAt w' b2 o2 = some y.k) (first | exact ⟨kyAt_later hk1 (by assumption), kyAt_later hk2 (by assumption)⟩) (first | (go_at_call 39; refine (less_any _ _ _).mono ?_; rintro e w4 ⟨rfl, hb4⟩; have hbel4 := bel_call hbelD hb4; have hown4 := own_below hownD hb4))
            clear hbelD hownD hb4
            have hi1x := itAt_later hi1'.out hbel4
            have hi2x := itAt_later hi2'.out hbel4
            go_wp2
            by_cases hxy : x = y
            · have hch' : Hid (ofL a b = acc ++ ofGo f ra rb) := by show _ = _; rw [hch.out, ofGo, if_neg (by rw [hq]; decide), if_neg (by rw [hq2]; decide), if_pos hxy]
              have he : decide (x = y) = true := decide_eq_true hxy
              clear hch hxy hq hq2 hR1' hR2'
              go_quiet (fail)
              have hbelE := below_drews hbel4 nq
              have hownE := own_drews hown4 nq
              clear hbel4 hown4
              generalize w4.drewN nq = w6 at *
              clear hi1x hi2x
              go_wp2
              go_quiet (fail)
              have hB5 := below_drews hbelE nq
              have ho5 := own_drews hownE nq
              clear hbelE hownE
              generalize w6.drewN nq = w7 at *
              go_wp2
              go_roundw
              case rel => exact ⟨_, _, _, _, f, ra, rb, acc, rfl, rfl, hT1, hT2, ho5, hB5, by first | omega | (simp; omega), hch', by first | omega | (simp; omega)⟩
              case measure => simp [lenOf]; omega
            · have hch' : Hid (ofL a b = (acc ++ [⟨3, x, y⟩]) ++ ofGo f ra rb) := by show _ = _; rw [hch.out, List.append_assoc, ofGo, if_neg (by rw [hq]; decide), if_neg (by rw [hq2]; decide), if_neg hxy]; rfl
              have he : decide (x = y) = false := decide_eq_false hxy
              clear hch hxy hq hq2 hR1' hR2'
              go_quiet (fail)
              have hbelE := below_drews hbel4 nq
              have hownE := own_drews hown4 nq
              clear hbel4 hown4
              generalize w4.drewN nq = w6 at *
              clear hi1x hi2x
              have hi1x := hi1'.out
              have hi2x := hi2'.out
              go_wp2
              have hbelD := hbelE.drew
              have hownD := hownE.drew
              clear hbelE hownE
              go_region_held3 (fun w' => itAt w' b1 o1 = some x ∧ itAt w' b2 o2 = some y) (first | exact ⟨itAt_later hi1x (by assumption), itAt_later hi2x (by assumption)⟩ | exact ⟨itAt_later hi1x (bel_alloc hbelD _), itAt_later hi2x (bel_alloc hbelD _)⟩) ((refine step_push_at rfl _ _ 25 (by rfl) w.heap.size 53 i1 (vC ⟨0, noneI k0, noneI k0⟩) 23 200 (by kernel_rfl) hi1 hy0 hy1 hy2 rfl (by decide) _ _ _ (by rfl) hownD _ _ (by rfl) (by rfl) (by simp) (cC_one _) (by unfold maxLen; omega) (by omega) hbelD.size hbelD ?_; intro v' w5 ho5 hg5 hm5 hB5 hs5))
              clear hbelD hownD hg5 hm5 he
              go_wp2
              go_quiet (fail)
              have hB6 := below_drews hB5 nq
              have ho6 := own_drews ho5 nq
              clear hB5 ho5
              generalize w5.drewN nq = w7 at *
              go_wp2
              go_roundw
              case rel => exact ⟨_, _, _, _, f, ra, rb, acc ++ [⟨3, x, y⟩], rfl, rfl, hT1, hT2, by rw [List.length_append, List.flatMap_append]; simpa using ho6, hB6, by first | omega | (simp; omega), hch', by first | omega | (simp; omega)⟩
              case measure => simp [lenOf]; omega
end Go.Proofs.Ytdefpphfbpkeaaa
