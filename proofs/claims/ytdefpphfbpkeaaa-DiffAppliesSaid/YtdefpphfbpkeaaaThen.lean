/-
  Changes, and then others, as one.
-/
import Derived.Test.YtdefpphfbpkeaaaJoin
namespace Go.Proofs.Ytdefpphfbpkeaaa
open Go.RowKit
set_option linter.unusedVariables false

theorem thenGo_nil (f : Nat) : thenGo f [] [] = some [] := by cases f <;> rfl
theorem map_app {o : Option (List Ch)} {a b : List Ch} : (o.map (b ++ ·)).map (a ++ ·) = o.map ((a ++ b) ++ ·) := by cases o <;> simp
theorem headC_at {w : World} {A : Option Addr} {c : Nat} {x : Ch} {r : List Ch} (h : Rd w 23 (.slice A (r.length + 1) c) (r.length + 1) ((x :: r).flatMap cC)) :
    ∃ b off, A = some ⟨b, off, none⟩ ∧ chAt w b off = some x ∧ Rd w 23 (.slice (cutA 23 A c 1) r.length (c - 1)) r.length (r.flatMap cC) ∧ 1 ≤ c ∧ r.length + 1 ≤ c ∧ c ≤ maxLen := by
  have hc := h.cap
  obtain ⟨b, off, rfl, _, hx⟩ := h.changes (k := 0) (by simp)
  have h0 := hx 0 (by simp)
  rw [Nat.zero_mul, Nat.add_zero] at h0
  exact ⟨b, off, rfl, h0, h.tail (cC_len x), by omega, hc.1, hc.2⟩
/-- What comes of changes behind changes that may be. -/
def ThenOut (l m z : List Ch) (e : Int) : Prop := (thenL l m = some z ∧ e = 0) ∨ (thenL l m = none ∧ z = [] ∧ e = 10)
def ThenPost (l m : List Ch) (w : World) (e : Ending) (w' : World) : Prop := ∃ A c z r, e = .returned (.tuple #[.slice A z.length c, .int .i64 r]) ∧ ThenOut l m z r ∧ w'.ownsRow w.heap.size 53 23 (.slice A z.length c) z.length (z.flatMap cC) ∧ Below w.heap.size w w' ∧ z.length ≤ l.length + m.length

set_option maxHeartbeats 1000000 in
set_option maxRecDepth 100000 in
theorem then_any (A1 A2 : Option Addr) (n1 c1 n2 c2 : Nat) (l m : List Ch) (w : World) (h1 : Rd w 23 (.slice A1 n1 c1) n1 (l.flatMap cC)) (h2 : Rd w 23 (.slice A2 n2 c2) n2 (m.flatMap cC)) (hn1 : n1 ≤ 20000) (hn2 : n2 ≤ 20000) (hcl : checkL l = 0) (hcm : checkL m = 0) :
    Calls Try.prog 20 #[.slice A1 n1 c1, .slice A2 n2 c2] w (ThenPost l m w) := by
  obtain ⟨i1, hi1, hy0, hy1, hy2⟩ := info_parts Try.infoC
  have hl1 := h1.rows (sz := 23) (f := cC) (fun q => rfl) (by decide)
  have hl2 := h2.rows (sz := 23) (f := cC) (fun q => rfl) (by decide)
  subst hl1 hl2
  go_enter Try.func20, Try.ntmps20
  go_wp2_with fail
  refine (check_any _ _ _ l _ h1).mono ?_
  rintro e w1 ⟨rfl, hb1⟩
  rw [hcl]
  have hq2 := h2.below hb1
  go_wp2_with fail
  refine (check_any _ _ _ m _ hq2).mono ?_
  rintro e w2 ⟨rfl, hb2⟩
  rw [hcm]
  have hbel0 := bel_call hb1 hb2
  clear hq2 hb1 hb2 hcl hcm
  go_wp2_with fail
  go_loopw [0, 1, 8] (fun va vb vo wr => ∃ (A1 A2 : Option Addr) (c1 c2 f : Nat) (la lb : List Ch) (acc : List Ch), va = .slice A1 la.length c1 ∧ vb = .slice A2 lb.length c2 ∧ Rd w 23 (.slice A1 la.length c1) la.length (la.flatMap cC) ∧ Rd w 23 (.slice A2 lb.length c2) lb.length (lb.flatMap cC) ∧
      wr.ownsRow w.heap.size 53 23 vo acc.length (acc.flatMap cC) ∧ Below w.heap.size w wr ∧ la.length + lb.length ≤ f ∧ Hid (thenL l m = (thenGo f la lb).map (acc ++ ·)) ∧ acc.length + la.length + lb.length ≤ l.length + m.length) (fun va vb _ _ => lenOf va + lenOf vb)
  case atStart => exact ⟨A1, A2, c1, c2, _, l, m, [], rfl, rfl, h1, h2, ⟨rfl, .inl ⟨rfl, rfl⟩⟩, hbel0, Nat.le_refl _, by show _ = _; unfold thenL; simp, by simp⟩
  case round =>
    obtain ⟨A1, A2, c1, c2, f, la, lb, acc, rfl, rfl, hR1, hR2, hown, hbel, hf, hch, hlen⟩ := hrel
    clear h1 h2 hbel0
    rcases la with _ | ⟨x, ra⟩
    · rcases lb with _ | ⟨y, rb⟩
      · have hch' : Hid (thenL l m = some acc) := by show _ = _; rw [hch.out, thenGo_nil]; simp
        clear hch
        obtain ⟨A3, c3, rfl⟩ := own_form hown
        go_wp2
        go_ret2
        exact ⟨A3, c3, acc, 0, rfl, .inl ⟨hch'.out, rfl⟩, hown, hbel, by simp at hlen; omega⟩
      · obtain ⟨f, rfl⟩ : ∃ f', f = f' + 1 := ⟨f - 1, by simp at hf; omega⟩
        simp only [List.length_cons, List.length_nil] at hR1 hR2 hf hlen ⊢
        obtain ⟨b2, o2, rfl, hc2y, hT2, hc2, hc2', hc2m⟩ := headC_at hR2
        unfold maxLen at hc2m
        have hch' : Hid (thenL l m = (thenGo f [] rb).map ((acc ++ [y]) ++ ·)) := by show _ = _; rw [hch.out, thenGo, map_app]
        have z2 : ((rb.length : Int) + 1 == 0) = false := beq_eq_false_iff_ne.2 (by omega)
        have y2 : decide ((0 : Int) < (rb.length : Int) + 1) = true := decide_eq_true (by omega)
        have x2 : (0 : Int) < (rb.length : Int) + 1 := by omega
        clear hch hR2
        go_wp2
        go_quiet (fail)
        have hbelE := below_drews hbel nq
        have hownE := own_drews hown nq
        clear hbel hown
        generalize wr.drewN nq = wq at *
        go_wp2
        go_quiet (fail)
        have hbelF := below_drews hbelE nq
        have hownF := own_drews hownE nq
        clear hbelE hownE
        generalize wq.drewN nq = wp at *
        have hcX := chAt_later hc2y hbelF
        have hszX := hbelF.size
        go_wp2_with (at_builtin; refine wpList_push_at rfl _ _ 25 rfl w.heap.size 53 i1 (vC ⟨0, noneI k0, noneI k0⟩) 23 200 (by kernel_rfl) hi1 hy0 hy1 hy2 rfl (by decide) _ _ _ rfl hownF _ _ rfl rfl (by simp) (cC_one _) ?c1 ?c2 hszX hbelF ?_)
        case c1 => unfold maxLen; omega
        case c2 => omega
        intro v' w5 ho5 hg5 hm5 hB5 hs5
        clear hbelF hownF hcX hg5 hm5
        go_wp2
        go_roundw
        case rel => exact ⟨A1, _, c1, _, f, [], rb, acc ++ [y], rfl, rfl, hR1, hT2, by rw [List.length_append, List.flatMap_append]; simpa using ho5, hB5, by first | omega | (simp; omega), hch', by first | omega | (simp; omega)⟩
        case measure => simp [lenOf]
    · obtain ⟨f, rfl⟩ : ∃ f', f = f' + 1 := ⟨f - 1, by simp at hf; omega⟩
      rcases lb with _ | ⟨y, rb⟩
      · simp only [List.length_cons, List.length_nil] at hR1 hR2 hf hlen ⊢
        obtain ⟨b1, o1, rfl, hc1x, hT1, hc1, hc1', hc1m⟩ := headC_at hR1
        unfold maxLen at hc1m
        have hch' : Hid (thenL l m = (thenGo f ra []).map ((acc ++ [x]) ++ ·)) := by show _ = _; rw [hch.out, thenGo, map_app]
        have z1 : ((ra.length : Int) + 1 == 0) = false := beq_eq_false_iff_ne.2 (by omega)
        have y1 : decide ((0 : Int) < (ra.length : Int) + 1) = true := decide_eq_true (by omega)
        have x1 : (0 : Int) < (ra.length : Int) + 1 := by omega
        clear hch hR1
        go_wp2
        go_quiet (fail)
        have hbelE := below_drews hbel nq
        have hownE := own_drews hown nq
        clear hbel hown
        generalize wr.drewN nq = wq at *
        have hcX := chAt_later hc1x hbelE
        have hszX := hbelE.size
        go_wp2_with (at_builtin; refine wpList_push_at rfl _ _ 25 rfl w.heap.size 53 i1 (vC ⟨0, noneI k0, noneI k0⟩) 23 200 (by kernel_rfl) hi1 hy0 hy1 hy2 rfl (by decide) _ _ _ rfl hownE _ _ rfl rfl (by simp) (cC_one _) ?c1 ?c2 hszX hbelE ?_)
        case c1 => unfold maxLen; omega
        case c2 => omega
        intro v' w5 ho5 hg5 hm5 hB5 hs5
        clear hbelE hownE hcX hg5 hm5
        go_wp2
        go_roundw
        case rel => exact ⟨_, A2, _, c2, f, ra, [], acc ++ [x], rfl, rfl, hT1, hR2, by rw [List.length_append, List.flatMap_append]; simpa using ho5, hB5, by first | omega | (simp; omega), hch', by first | omega | (simp; omega)⟩
        case measure => simp [lenOf]
      · simp only [List.length_cons] at hR1 hR2 hf hlen ⊢
        obtain ⟨b1, o1, rfl, hc1x, hT1, hc1, hc1', hc1m⟩ := headC_at hR1
        obtain ⟨b2, o2, rfl, hc2y, hT2, hc2, hc2', hc2m⟩ := headC_at hR2
        have hk1 := (ch_parts hc1x).2.2.2.1
        have hk2 := (ch_parts hc2y).2.2.2.1
        unfold maxLen at hc1m hc2m
        have z1 : ((ra.length : Int) + 1 == 0) = false := beq_eq_false_iff_ne.2 (by omega)
        have y1 : decide ((0 : Int) < (ra.length : Int) + 1) = true := decide_eq_true (by omega)
        have x1 : (0 : Int) < (ra.length : Int) + 1 := by omega
        have z2 : ((rb.length : Int) + 1 == 0) = false := beq_eq_false_iff_ne.2 (by omega)
        have y2 : decide ((0 : Int) < (rb.length : Int) + 1) = true := decide_eq_true (by omega)
        have x2 : (0 : Int) < (rb.length : Int) + 1 := by omega
        have s1 : decide ((0 : Int) < (ra.length : Int) + 1 + ((rb.length : Int) + 1)) = true := decide_eq_true (by omega)
        have s2 : (0 : Int) < (ra.length : Int) + 1 + ((rb.length : Int) + 1) := by omega
        have hR1' := Lib.hid hR1
        have hR2' := Lib.hid hR2
        have hx' := Lib.hid hc1x
        have hy' := Lib.hid hc2y
        clear hR1 hR2 hc1x hc2y
        go_wp2
        cases hq : lessK x.o.k y.o.k with
        | true =>
          have hch' : Hid (thenL l m = (thenGo f ra (y :: rb)).map ((acc ++ [x]) ++ ·)) := by show _ = _; rw [hch.out, thenGo, if_pos hq, map_app]
          clear hch
          have hbelD := hbel.drew
          have hownD := hown.drew
          clear hbel hown
          go_region_held3 (fun w' => kyAt w' b1 (o1 + 1) = some x.o.k ∧ kyAt w' b2 (o2 + 1) = some y.o.k) (first | exact ⟨kyAt_later hk1 (by assumption), kyAt_later hk2 (by assumption)⟩) (first | (go_at_call 39; refine (less_any _ _ _).mono ?_; rintro e w3 ⟨rfl, hb3⟩; have hbel3 := bel_call hbelD hb3; have hown3 := own_below hownD hb3))
          clear hbelD hownD hb3
          have hR2 : Rd w 23 (.slice (some ⟨b2, o2, none⟩) (y :: rb).length c2) (y :: rb).length ((y :: rb).flatMap cC) := hR2'.out
          have hc1x := hx'.out
          clear hq hR2' hR1' hx' hy'
          have hcX := chAt_later hc1x hbel3
          have hszX := hbel3.size
          go_wp2_with (at_builtin; refine wpList_push_at rfl _ _ 25 rfl w.heap.size 53 i1 (vC ⟨0, noneI k0, noneI k0⟩) 23 200 (by kernel_rfl) hi1 hy0 hy1 hy2 rfl (by decide) _ _ _ rfl hown3 _ _ rfl rfl (by simp) (cC_one _) ?c1 ?c2 hszX hbel3 ?_)
          case c1 => unfold maxLen; omega
          case c2 => omega
          intro v' w5 ho5 hg5 hm5 hB5 hs5
          clear hbel3 hown3 hcX hg5 hm5
          go_wp2
          go_roundw
          case rel => exact ⟨_, some ⟨b2, o2, none⟩, _, c2, f, ra, (y :: rb), acc ++ [x], rfl, rfl, hT1, hR2, by rw [List.length_append, List.flatMap_append]; simpa using ho5, hB5, by first | omega | (simp; omega), hch', by first | omega | (simp; omega)⟩
          case measure => simp [lenOf]
        | false =>
          have hbelD := hbel.drew
          have hownD := hown.drew
          clear hbel hown
          go_region_held3 (fun w' => kyAt w' b1 (o1 + 1) = some x.o.k ∧ kyAt w' b2 (o2 + 1) = some y.o.k) (first | exact ⟨kyAt_later hk1 (by assumption), kyAt_later hk2 (by assumption)⟩) (first | (go_at_call 39; refine (less_any _ _ _).mono ?_; rintro e w3 ⟨rfl, hb3⟩; have hbel3 := bel_call hbelD hb3; have hown3 := own_below hownD hb3))
          clear hbelD hownD hb3
          go_wp2
          cases hq2 : lessK y.o.k x.o.k with
          | true =>
            have hch' : Hid (thenL l m = (thenGo f (x :: ra) rb).map ((acc ++ [y]) ++ ·)) := by show _ = _; rw [hch.out, thenGo, if_neg (by rw [hq]; decide), if_pos hq2, map_app]
            clear hch
            have hbelD := hbel3.drew
            have hownD := hown3.drew
            clear hbel3 hown3
            go_region_held3 (fun w' => kyAt w' b1 (o1 + 1) = some x.o.k ∧ kyAt w' b2 (o2 + 1) = some y.o.k) (first | exact ⟨kyAt_later hk1 (by assumption), kyAt_later hk2 (by assumption)⟩) (first | (go_at_call 39; refine (less_any _ _ _).mono ?_; rintro e w4 ⟨rfl, hb4⟩; have hbel4 := bel_call hbelD hb4; have hown4 := own_below hownD hb4))
            clear hbelD hownD hb4
            have hR1 : Rd w 23 (.slice (some ⟨b1, o1, none⟩) (x :: ra).length c1) (x :: ra).length ((x :: ra).flatMap cC) := hR1'.out
            have hc2y := hy'.out
            clear hq hq2 hR2' hR1' hx' hy'
            have hcX := chAt_later hc2y hbel4
            have hszX := hbel4.size
            go_wp2_with (at_builtin; refine wpList_push_at rfl _ _ 25 rfl w.heap.size 53 i1 (vC ⟨0, noneI k0, noneI k0⟩) 23 200 (by kernel_rfl) hi1 hy0 hy1 hy2 rfl (by decide) _ _ _ rfl hown4 _ _ rfl rfl (by simp) (cC_one _) ?c1 ?c2 hszX hbel4 ?_)
            case c1 => unfold maxLen; omega
            case c2 => omega
            intro v' w5 ho5 hg5 hm5 hB5 hs5
            clear hbel4 hown4 hcX hg5 hm5
            go_wp2
            go_roundw
            case rel => exact ⟨some ⟨b1, o1, none⟩, _, c1, _, f, (x :: ra), rb, acc ++ [y], rfl, rfl, hR1, hT2, by rw [List.length_append, List.flatMap_append]; simpa using ho5, hB5, by first | omega | (simp; omega), hch', by first | omega | (simp; omega)⟩
            case measure => simp [lenOf]
          | false =>
            have hbelD := hbel3.drew
            have hownD := hown3.drew
            clear hbel3 hown3
            go_region_held3 (fun w' => kyAt w' b1 (o1 + 1) = some x.o.k ∧ kyAt w' b2 (o2 + 1) = some y.o.k) (first | exact ⟨kyAt_later hk1 (by assumption), kyAt_later hk2 (by assumption)⟩) (first | (go_at_call 39; refine (less_any _ _ _).mono ?_; rintro e w4 ⟨rfl, hb4⟩; have hbel4 := bel_call hbelD hb4; have hown4 := own_below hownD hb4))
            clear hbelD hownD hb4
            have hc1x := hx'.out
            have hc2y := hy'.out
            have hch2 : Hid (thenL l m = (match joinL x y with | none => none | some z => (thenGo f ra rb).map (z ++ ·)).map (acc ++ ·)) := by show _ = _; rw [hch.out, thenGo, if_neg (by rw [hq]; decide), if_neg (by rw [hq2]; decide)]; rfl
            clear hq hq2 hR2' hR1' hx' hy' hch
            go_wp2_with fail
            have hbelD := hbel4.drew
            have hownD := hown4.drew
            clear hbel4 hown4
            go_region_held3 (fun w' => chAt w' b1 o1 = some x ∧ chAt w' b2 o2 = some y) (first | exact ⟨chAt_later hc1x (by assumption), chAt_later hc2y (by assumption)⟩) (first | (go_at_call 45; refine (join_any x y _).mono ?_; rintro e w6 ⟨AJ, cJ, rfl, hoJ, hb6⟩; have hbel6 := bel_call hbelD hb6; have hown6 := own_below hownD hb6))
            clear hbelD hownD hb6
            cases hj : joinL x y with
            | none =>
              have hch3 : Hid (thenL l m = none) := by show _ = _; rw [hch2.out, hj]; rfl
              simp only [hj, Option.isSome_none, Option.getD_none] at hoJ ⊢
              clear hch2 hoJ hj hown6
              go_wp2
              go_ret2
              exact ⟨none, 0, [], 10, rfl, .inr ⟨hch3.out, rfl, rfl⟩, ⟨rfl, .inl ⟨rfl, rfl⟩⟩, hbel6, Nat.zero_le _⟩
            | some z =>
              have hch' : Hid (thenL l m = (thenGo f ra rb).map ((acc ++ z) ++ ·)) := by show _ = _; rw [hch2.out, hj]; exact map_app
              have hzl := join_len hj
              simp only [hj, Option.isSome_some, Option.getD_some] at hoJ ⊢
              have hRJ := Rd.of_own hoJ
              have hsz6 := hbel6.size
              clear hch2 hoJ hj
              go_wp2_with (at_builtin; refine wpList_more _ rfl _ _ 25 rfl w.heap.size 53 i1 (vC ⟨0, noneI k0, noneI k0⟩) 23 200 (by kernel_rfl) hi1 hy0 hy1 hy2 rfl (by decide) _ _ _ rfl hown6 _ _ _ _ rfl hRJ (flat_oneC z) ?d1 ?d2 hsz6 hbel6 ?_)
              case d1 => unfold maxLen; omega
              case d2 => omega
              intro v' w7 ho7 hg7 hm7 hB7 hs7
              clear hg7 hm7 hRJ hown6 hbel6
              go_wp2
              go_quiet (fail)
              have hB5 := below_drews hB7 nq
              have ho5 := own_drews ho7 nq
              clear hB7 ho7
              generalize w7.drewN nq = w8 at *
              go_wp2
              go_roundw
              case rel => exact ⟨_, _, _, _, f, ra, rb, acc ++ z, rfl, rfl, hT1, hT2, by rw [List.length_append, List.flatMap_append]; simpa using ho5, hB5, by first | omega | (simp; omega), hch', by first | omega | (simp; omega)⟩
              case measure => simp [lenOf]; omega
end Go.Proofs.Ytdefpphfbpkeaaa
