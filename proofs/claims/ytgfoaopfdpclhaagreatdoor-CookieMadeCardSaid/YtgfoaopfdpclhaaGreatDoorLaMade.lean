/-
  The law CookieMade.
-/
import Derived.Test.YtgfoaopfdpclhaaGreatDoorLaMadeP
import Derived.Deep.DeepCutAuto
namespace Go.Proofs.YtgfoaopfdpclhaaGreatDoor
open Go.RowKit Go.Deep Go.WideShapes
set_option linter.unusedVariables false
set_option maxRecDepth 100000

theorem refOver_any (c : Ck) (now : Int) (w : World) : Calls Tryz.prog 14 #[vCk c, .int .i64 now] w fun e w' => e = .returned (.bool (overB c now)) ∧ Below w.heap.size w w' := by
  have hB := bel_alloc (Below.refl w.heap.size w) (.cells (cCk c).toArray 32)
  have hC : ckAt (w.alloc (.cells (cCk c).toArray 32)) w.heap.size 0 = some c := ckAt_of (range_blk (heap_alloc_new w _))
  obtain ⟨_, _, _, q4, q5⟩ := ck_cells hC
  rw [Nat.zero_add] at q4 q5
  clear hC
  cases hp : c.pe
  · have hf := Lib.hid (show overB c now = false by unfold overB; rw [hp]; rfl)
    rw [hp] at q4
    clear hp
    go_enter Tryz.func14, Tryz.ntmps14
    go_wp2
    go_ret
    exact ⟨ret_bool hf.out.symm, hB⟩
  · have hf := Lib.hid (show overB c now = decide (c.ex ≤ now) by unfold overB; rw [hp]; rfl)
    rw [hp] at q4
    clear hp
    go_enter Tryz.func14, Tryz.ntmps14
    go_wp2
    go_ret
    exact ⟨ret_bool (by rw [hf.out]), hB⟩
theorem sh_right {x : It} (h : rightI x = true) (hd : x.k.d.length ≤ 2000) : ShI x := by
  unfold rightI plainB at h
  simp only [Bool.and_eq_true, decide_eq_true_eq] at h
  have h1 := h.2.1.1
  have h2 := h.2.2.1.1
  have h3 := h.2.2.2.2.2.2.1
  exact ⟨by omega, by omega, by omega, by omega⟩
set_option maxRecDepth 100000 in
set_option maxHeartbeats 8000000 in
theorem cookieMade0 (A : Option Addr) (c : Nat) (rs : List (List UInt8)) (x : Cm) (w : World) (hR : Rd w 1 (.slice A rs.length c) rs.length (rs.map strV)) (hn1 : -9223372036854775808 ≤ x.n) (hn2 : x.n ≤ 9223372036854775807) (hm : Mon w) :
    Calls Tryz.prog 5 #[.slice A rs.length c, .agg (camC x)] w fun e w' => e = .returned (.bool true) ∧ Below w.heap.size w w' := by
  have hb0 := bel_alloc (Below.refl w.heap.size w) (.cells (camC x) 26)
  have hK0 := Blk.new_ w 26 (camC x)
  have hR0 := hR.below hb0
  have hm0 := hm.next hb0
  clear hR hm
  go_enter Tryz.func5, Tryz.ntmps5
  go_upto_region 1 with (fail)
  show Code.wp _ _ _ _ (w.alloc (.cells (camC x) 26))
  generalize w.alloc (.cells (camC x) 26) = w0 at *
  have q0 := cam_rq hK0
  have k4 : w0.cell? ⟨w.heap.size, 4, none⟩ = some (.string (S x.h)) := hK0.cell 4
  have k5 : w0.cell? ⟨w.heap.size, 5, none⟩ = some (.int .i64 x.n) := hK0.cell 5
  go_wp2_with fail
  refine (light14_any A c rs x.r x.h _ hR0).mono ?_
  rintro e w1 ⟨b, rfl, hb1, hbd⟩
  have hB1 := bel_call hb0 hb1
  have hK1 := hK0.below hb1
  have hR1 := hR0.below hb1
  have hm1 := hm0.next hb1
  clear hb0 hK0 hR0 hm0 q0 k4 k5 hb1
  cases b with
  | false =>
    clear hbd
    go_wp2_with (go_at_call 8; refine (awake14_any _ hm1).mono ?_; rintro e w99 ⟨rfl, hb99⟩)
    go_ret
    exact ⟨rfl, bel_call hB1 hb99⟩
  | true =>
    obtain ⟨l1, l2, l3, l4⟩ := hbd rfl
    have hrs : ∀ q ∈ rs, q.length ≤ 4294967296 := fun q hq => by have := l1 q hq; omega
    clear hbd l1
    have q1 := cam_rq hK1
    have k4 : w1.cell? ⟨w.heap.size, 4, none⟩ = some (.string (S x.h)) := hK1.cell 4
    have k5 : w1.cell? ⟨w.heap.size, 5, none⟩ = some (.int .i64 x.n) := hK1.cell 5
    go_wp2_with fail
    refine (make_any A _ c rs x.r x.h x.n _ hR1 hrs (by omega) (by omega) (by omega) hn1 hn2 hm1).mono ?_
    rintro e w2 ⟨rfl, hb2⟩
    unfold mkV
    obtain ⟨X, hX⟩ : ∃ X, X = mkIt rs x.r x.h x.n := ⟨_, rfl⟩
    obtain ⟨E, hE⟩ : ∃ E, E = mkE rs x.r x.h := ⟨_, rfl⟩
    rw [← hX, ← hE]
    have hgd : E = 0 → rightI X = true ∧ X.k.d.length ≤ 2000 ∧ matchB x.r.h X.k.d = true ∧ (X.c.ho = true → X.k.d = x.r.h) ∧ fitsR X x.r x.n = !((X.c.se && !x.r.s) || (overB X.c x.n || !fitB x.r.p X.k.p)) := fun e0 => by
      have h0 : mkE rs x.r x.h = 0 := by rw [← hE]; exact e0
      have e1 := (mk_ok (now := x.n) h0).2
      have e2 := mk_dlen (now := x.n) h0 l2
      rw [hX]
      rw [e1] at e2 ⊢
      refine ⟨made_right x.n h0, e2, (dom_match h0).1, fun ho => ?_, made_fits x.n h0⟩
      refine (dom_match h0).2 ?_
      have : (!domS rs (fieldsH x.h)) = true := ho
      simpa using this
    have hbd2 : ¬ E = 0 → X = itZ := fun e0 => by
      rw [hX]; unfold mkIt; rw [if_neg (by rw [← hE]; exact e0)]
    replace hgd := Lib.hid hgd
    replace hbd2 := Lib.hid hbd2
    clear hX hE
    have hba := bel_alloc (Below.refl _ w2) (.cells (cI X).toArray 34)
    have hB3 := bel_alloc (bel_call hB1 hb2) (.cells (cI X).toArray 34)
    have hK3 := (hK1.below hb2).below hba
    have hm3 := (hm1.next hb2).next hba
    have hI3 := itAt_new w2 X 34 w2.heap.size rfl
    clear hB1 hK1 hR1 hm1 q1 k4 k5 hb2 hba
    go_upto_region 4 with (fail)
    show Code.wp _ _ _ _ (w2.alloc (.cells (cI X).toArray 34))
    generalize hg2 : w2.heap.size = g2 at *
    generalize w2.alloc (.cells (cI X).toArray 34) = w3 at *
    by_cases he : E = 0
    case neg =>
      have hXz := hbd2.out he
      have he1 : (E != 0) = true := by simpa using he
      clear he hbd2 hgd
      subst hXz
      go_wp2_with (go_at_call 8; refine (awake14_any _ hm3).mono ?_; rintro e w99 ⟨rfl, hb99⟩)
      go_ret
      exact ⟨rfl, bel_call hB3 hb99⟩
    subst he
    obtain ⟨g1, g2', g3, g4, g5⟩ := hgd.out (by simp)
    have hsh := sh_right g1 g2'
    have hzh : (S x.r.h).size ≤ 4294967296 := by simp; omega
    have hzd : (S X.k.d).size ≤ 4294967296 := by simp; omega
    have hzp : (S x.r.p).size ≤ maxLen := by unfold maxLen; simp; omega
    have hzq : (S X.k.p).size ≤ maxLen := by have := hsh.2.2.1; unfold maxLen; simp; omega
    have hf1 : X.k.d.length ≤ 4294967296 := by omega
    have hf2 : X.k.p.length ≤ 4294967296 := hsh.2.2.1
    have hf3 : x.r.h.length ≤ 4294967296 := by omega
    have hf4 : x.r.p.length ≤ 4294967296 := by omega
    replace g1 := Lib.hid g1
    replace g3 := Lib.hid g3
    replace g4 := Lib.hid g4
    replace g5 := Lib.hid g5
    clear hgd hbd2 g2'
    go_wp2_with fail
    refine (refRight_any' X _ hsh).mono ?_
    rintro e w4 ⟨rfl, hb4⟩
    rw [g1.out]
    have hB4 := bel_call hB3 hb4
    have hm4 := hm3.next hb4
    have hI4 := itAt_later hI3 hb4
    have hK4 := hK3.below hb4
    clear hB3 hm3 hK3 hb4 hI3
    obtain ⟨t0, t1, t2⟩ := ky_cells (kyAt_it hI4)
    have k0 : w4.cell? ⟨w.heap.size, 0, none⟩ = some (.string (S x.r.h)) := hK4.cell 0
    clear t0 t2
    go_wp2_with fail
    refine (refMatch08_any (S x.r.h) (S X.k.d) _ hzh hzd).mono ?_
    rintro e w5 ⟨rfl, hb5⟩
    rw [S_toList, S_toList, g3.out]
    have hB5 := bel_call hB4 hb5
    have hm5 := hm4.next hb5
    have hI5 := itAt_later hI4 hb5
    have hK5 := hK4.below hb5
    clear hB4 hm4 hK4 hb5 hI4 t1 k0
    obtain ⟨t0, t1, t2⟩ := ky_cells (kyAt_it hI5)
    have t4 : w5.cell? ⟨g2, 4, none⟩ = some (.bool X.c.ho) := (ck_cells (ckAt_it hI5)).1
    have k0 : w5.cell? ⟨w.heap.size, 0, none⟩ = some (.string (S x.r.h)) := hK5.cell 0
    clear t0 t2
    have hoc : (X.c.ho = false) ∨ (X.c.ho = true ∧ X.k.d = x.r.h) := by
      cases hh : X.c.ho with
      | false => exact .inl rfl
      | true => exact .inr ⟨rfl, g4.out hh⟩
    rcases hoc with o1 | ⟨o1, o2⟩
    case' inl => rw [o1] at t4
    case' inr =>
      rw [o1] at t4
      rw [o2] at t1
      clear o2
    all_goals
      clear o1
      have hIH := Lib.hid hI5
      have hKH := Lib.hid hK5
      clear hI5 hK5
      go_upto_region 8 with (fail)
      clear t1 t4 k0
      have hI6 := hIH.out
      have hK6 := hKH.out
      obtain ⟨Ag, hAg⟩ : ∃ b, b = ((X.c.se && !x.r.s) || (overB X.c x.n || !fitB x.r.p X.k.p)) := ⟨_, rfl⟩
      rw [← hAg] at g5
      replace hAg := Lib.hid hAg
      go_cut [7] (fun v wx => v = .bool Ag ∧ Below w5.heap.size w5 wx)
      case first =>
        have t5 : w5.cell? ⟨g2, 5, none⟩ = some (.bool X.c.se) := (ck_cells (ckAt_it hI6)).2.1
        have k2 : w5.cell? ⟨w.heap.size, 2, none⟩ = some (.bool x.r.s) := hK6.cell 2
        have k5 : w5.cell? ⟨w.heap.size, 5, none⟩ = some (.int .i64 x.n) := hK6.cell 5
        have hck : ckAt w5 g2 3 = some X.c := ckAt_it hI6
        by_cases hA : (X.c.se = true ∧ x.r.s = false)
        · have e : Ag = true := by rw [hAg.out, hA.1, hA.2]; rfl
          rw [hA.1] at t5
          rw [hA.2] at k2
          subst e
          have hbr := Below.refl w5.heap.size w5
          clear hI6 hK6 hA hck k5
          go_wp2
          go_meet
          exact ⟨rfl, hbr⟩
        · have e : Hid (Ag = (overB X.c x.n || !fitB x.r.p X.k.p)) := by
            show _ = _
            rw [hAg.out]
            revert hA
            cases X.c.se <;> cases x.r.s <;> simp
          have hc2 : (X.c.se = false) ∨ (X.c.se = true ∧ x.r.s = true) := by
            revert hA
            cases X.c.se <;> cases x.r.s <;> simp
          clear hA
          rcases hc2 with a1 | ⟨a1, a2⟩
          case' inl => rw [a1] at t5
          case' inr =>
            rw [a1] at t5
            rw [a2] at k2
            clear a2
          all_goals
            clear a1 hI6 hK6
            go_wp2_with fail
            refine (refOver_any X.c x.n _).mono ?_
            rintro e6 w6 ⟨rfl, hb6⟩
            clear t5 k2 k5 hck
            have hI7 := itAt_later hIH.out hb6
            have hK7 := hKH.out.below hb6
            obtain ⟨t0, t1, t2⟩ := ky_cells (kyAt_it hI7)
            have k1 : w6.cell? ⟨w.heap.size, 1, none⟩ = some (.string (S x.r.p)) := hK7.cell 1
            clear t0 t1 hI7 hK7
            cases ho : overB X.c x.n with
            | true =>
              have e2 : Hid (Ag = true) := by show _ = _; rw [e.out, ho]; rfl
              clear ho e
              go_wp2
              go_meet
              exact ⟨by rw [e2.out], hb6⟩
            | false =>
              have e2 : Hid (Ag = !fitB x.r.p X.k.p) := by show _ = _; rw [e.out, ho]; rfl
              clear ho e
              go_wp2_with fail
              refine (refMatch_any (S x.r.p) (S X.k.p) _ hzp hzq).mono ?_
              rintro e7 w7 ⟨rfl, rfl⟩
              rw [S_toList, S_toList, refFit_eq]
              generalize fitB x.r.p X.k.p = F at *
              go_wp2
              go_meet
              exact ⟨by rw [e2.out], hb6⟩
      case rest =>
      obtain ⟨rfl, hb6⟩ := hcut
      generalize wc = w6 at *
      have hB6 := bel_call hB5 hb6
      have hm6 := hm5.next hb6
      have hI7 := itAt_later hI6 hb6
      have hK7 := hK6.below hb6
      have q7 := cam_rq hK7
      have k5 : w6.cell? ⟨w.heap.size, 5, none⟩ = some (.int .i64 x.n) := hK7.cell 5
      clear hI6 hK6 hIH hKH hB5 hm5 hb6
      go_wp2_with fail
      refine (fits_any' X x.r x.n _ hf3 hf1 hf4 hf2).mono ?_
      rintro e8 w8 ⟨rfl, hb8⟩
      rw [g5.out]
      have hB8 := bel_call hB6 hb8
      have hm8 := hm6.next hb8
      clear hB6 hm6 hI7 hK7 q7 k5 hb8 g5 hAg
      cases Ag
      all_goals go_wp2_with (go_at_call 8; refine (awake14_any _ hm8).mono ?_; rintro e w99 ⟨rfl, hb99⟩)
      all_goals go_ret
      all_goals exact ⟨rfl, bel_call hB8 hb99⟩
theorem cookieMade (a : SlArg (List UInt8)) (x : Cm) (w : World) (ha : Rd w 1 (.slice a.A a.n a.c) a.n (a.l.map strV) ∧ ∀ q ∈ a.l, q.length ≤ maxLen) (hx : (Lit.int .i64 x.n).wf = true) (hm : Mon w) :
    Calls Tryz.prog 5 #[.slice a.A a.n a.c, .agg (camC x)] w fun e w' => e = .returned (.bool true) ∧ Below w.heap.size w w' := by
  obtain ⟨A, n, c, l⟩ := a
  obtain ⟨hR, _⟩ := ha
  simp only at hR ⊢
  have hn : l.length = n := by have := hR.1; simpa using this
  subst hn
  exact cookieMade0 A c l x w hR (i64_wfC hx).1 (i64_wfC hx).2 hm
end Go.Proofs.YtgfoaopfdpclhaaGreatDoor
