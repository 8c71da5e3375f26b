/-
  The law CookieSuffix.
-/
import Derived.Test.YtgfoaopfdpclhaaGreatDoorLaMakes
namespace Go.Proofs.YtgfoaopfdpclhaaGreatDoor
open Go.RowKit Go.Deep Go.WideShapes
set_option linter.unusedVariables false
set_option maxRecDepth 100000

theorem mk_ok {rs : List (List UInt8)} {r : Rq} {head : List UInt8} {now : Int} (h : mkE rs r head = 0) : checkI rs = 0 ∧ mkIt rs r head now = mkX rs r head now := by
  refine ⟨?_, by unfold mkIt; rw [if_pos h]⟩
  unfold mkE at h
  split at h
  · assumption
  · exact absurd h (by assumption)
/-- What is for a public suffix is for the host alone. -/
theorem mk_pub {rs : List (List UInt8)} {r : Rq} {head : List UInt8} {now : Int} (h : mkE rs r head = 0) (hp : publicB rs (mkIt rs r head now).k.d = true) : (mkIt rs r head now).c.ho = true ∧ (mkIt rs r head now).k.d = r.h := by
  rw [(mk_ok (now := now) h).2] at hp ⊢
  have hs : domS rs (fieldsH head) = false := by
    cases hd : domS rs (fieldsH head) with
    | false => rfl
    | true =>
      have e : (mkX rs r head now).k.d = (canonT (fieldsH head).dm).1 := by
        show domK rs r (fieldsH head) = _
        unfold domK; rw [hd]; rfl
      rw [e] at hp
      unfold domS at hd
      rw [hp] at hd
      simp at hd
  refine ⟨?_, ?_⟩
  · show (!domS rs (fieldsH head)) = true
    rw [hs]; rfl
  · show domK rs r (fieldsH head) = _
    unfold domK; rw [hs]; rfl
theorem mk_dlen {rs : List (List UInt8)} {r : Rq} {head : List UInt8} {now : Int} (h : mkE rs r head = 0) (hr : r.h.length ≤ 2000) : (mkIt rs r head now).k.d.length ≤ 2000 := by
  rw [(mk_ok (now := now) h).2]
  show (domK rs r (fieldsH head)).length ≤ 2000
  have := canonT_len (fieldsH head).dm
  unfold domK
  split <;> omega
set_option maxRecDepth 100000 in
set_option maxHeartbeats 8000000 in
theorem cookieSuffix0 (A : Option Addr) (c : Nat) (rs : List (List UInt8)) (x : Cm) (w : World) (hR : Rd w 1 (.slice A rs.length c) rs.length (rs.map strV)) (hn1 : -9223372036854775808 ≤ x.n) (hn2 : x.n ≤ 9223372036854775807) (hm : Mon w) :
    Calls Tryz.prog 6 #[.slice A rs.length c, .agg (camC x)] w fun e w' => e = .returned (.bool true) ∧ Below w.heap.size w w' := by
  have hb0 := bel_alloc (Below.refl w.heap.size w) (.cells (camC x) 26)
  have hK0 := Blk.new_ w 26 (camC x)
  have hR0 := hR.below hb0
  have hm0 := hm.next hb0
  clear hR hm
  go_enter Tryz.func6, Tryz.ntmps6
  go_upto_region 1 with (fail)
  show Code.wp _ _ _ _ (w.alloc (.cells (camC x) 26))
  generalize w.alloc (.cells (camC x) 26) = w0 at *
  have q0 := cam_rq hK0
  have k4 : w0.cell? ⟨w.heap.size, 4, none⟩ = some (.string (S x.h)) := hK0.cell 4
  have k5 : w0.cell? ⟨w.heap.size, 5, none⟩ = some (.int .i64 x.n) := hK0.cell 5
  go_wp2_with fail
  refine (light14_any A c rs x.r x.h _ hR0).mono ?_
  rintro e w1 ⟨b, rfl, hb1, hbd⟩
  have hB1 := bel_call hb0 hb1
  have hK1 := hK0.below hb1
  have hR1 := hR0.below hb1
  have hm1 := hm0.next hb1
  clear hb0 hK0 hR0 hm0 q0 k4 k5 hb1
  cases b with
  | false =>
    clear hbd
    go_wp2_with (go_at_call 8; refine (awake14_any _ hm1).mono ?_; rintro e w99 ⟨rfl, hb99⟩)
    go_ret
    exact ⟨rfl, bel_call hB1 hb99⟩
  | true =>
    obtain ⟨l1, l2, l3, l4⟩ := hbd rfl
    have hrs : ∀ q ∈ rs, q.length ≤ 4294967296 := fun q hq => by have := l1 q hq; omega
    clear hbd l1
    have q1 := cam_rq hK1
    have k4 : w1.cell? ⟨w.heap.size, 4, none⟩ = some (.string (S x.h)) := hK1.cell 4
    have k5 : w1.cell? ⟨w.heap.size, 5, none⟩ = some (.int .i64 x.n) := hK1.cell 5
    go_wp2_with fail
    refine (make_any A _ c rs x.r x.h x.n _ hR1 hrs (by omega) (by omega) (by omega) hn1 hn2 hm1).mono ?_
    rintro e w2 ⟨rfl, hb2⟩
    unfold mkV
    obtain ⟨X, hX⟩ : ∃ X, X = mkIt rs x.r x.h x.n := ⟨_, rfl⟩
    obtain ⟨E, hE⟩ : ∃ E, E = mkE rs x.r x.h := ⟨_, rfl⟩
    rw [← hX, ← hE]
    have hpb : E = 0 → publicB rs X.k.d = true → X.c.ho = true ∧ X.k.d = x.r.h := fun e0 hp => by
      rw [hX] at hp ⊢
      exact mk_pub (by rw [← hE]; exact e0) hp
    have hdl : E = 0 → X.k.d.length ≤ 2000 ∧ checkI rs = 0 := fun e0 => by
      rw [hX]
      exact ⟨mk_dlen (by rw [← hE]; exact e0) l2, (mk_ok (now := x.n) (by rw [← hE]; exact e0)).1⟩
    replace hpb := Lib.hid hpb
    replace hdl := Lib.hid hdl
    clear hX hE
    have hba := bel_alloc (Below.refl _ w2) (.cells (cI X).toArray 34)
    have hB3 := bel_alloc (bel_call hB1 hb2) (.cells (cI X).toArray 34)
    have hK3 := (hK1.below hb2).below hba
    have hR3 := (hR1.below hb2).below hba
    have hm3 := (hm1.next hb2).next hba
    have hI3 := itAt_new w2 X 34 w2.heap.size rfl
    clear hB1 hK1 hR1 hm1 q1 k4 k5 hb2 hba
    go_upto_region 4 with (fail)
    show Code.wp _ _ _ _ (w2.alloc (.cells (cI X).toArray 34))
    generalize hg2 : w2.heap.size = g2 at *
    generalize w2.alloc (.cells (cI X).toArray 34) = w3 at *
    obtain ⟨t0, t1, t2⟩ := ky_cells (kyAt_it hI3)
    have t4 : w3.cell? ⟨g2, 4, none⟩ = some (.bool X.c.ho) := (ck_cells (ckAt_it hI3)).1
    have k0 : w3.cell? ⟨w.heap.size, 0, none⟩ = some (.string (S x.r.h)) := hK3.cell 0
    by_cases he : E = 0
    · subst he
      obtain ⟨hd1, hd2⟩ := hdl.out (by simp)
      clear hdl t0 t2
      go_wp2_with fail
      refine (refPublic_any A c rs X.k.d _ hR3 hrs hd2 (by omega)).mono ?_
      rintro e w4 ⟨rfl, hb4⟩
      have hB4 := bel_call hB3 hb4
      have hm4 := hm3.next hb4
      have hI4 := itAt_later hI3 hb4
      have hK4 := hK3.below hb4
      clear hB3 hm3 hK3 hR3 t1 t4 k0 hb4 hI3
      obtain ⟨t0, t1, t2⟩ := ky_cells (kyAt_it hI4)
      have t4 : w4.cell? ⟨g2, 4, none⟩ = some (.bool X.c.ho) := (ck_cells (ckAt_it hI4)).1
      have k0 : w4.cell? ⟨w.heap.size, 0, none⟩ = some (.string (S x.r.h)) := hK4.cell 0
      clear t0 t2 hI4 hK4
      cases hp : publicB rs X.k.d with
      | false =>
        clear hpb hp
        go_wp2_with (go_at_call 8; refine (awake14_any _ hm4).mono ?_; rintro e w99 ⟨rfl, hb99⟩)
        go_ret
        exact ⟨rfl, bel_call hB4 hb99⟩
      | true =>
        obtain ⟨p1, p2⟩ := hpb.out (by simp) hp
        rw [p1] at t4
        rw [p2] at t1
        clear hpb hp p1 p2
        go_wp2_with (go_at_call 8; refine (awake14_any _ hm4).mono ?_; rintro e w99 ⟨rfl, hb99⟩)
        go_ret
        exact ⟨rfl, bel_call hB4 hb99⟩
    · have he1 : (E != 0) = true := by simpa using he
      clear he hpb hdl t0 t1 t2 t4 k0 hI3 hK3 hR3
      go_wp2_with (go_at_call 8; refine (awake14_any _ hm3).mono ?_; rintro e w99 ⟨rfl, hb99⟩)
      go_ret
      exact ⟨rfl, bel_call hB3 hb99⟩
theorem cookieSuffix (a : SlArg (List UInt8)) (x : Cm) (w : World) (ha : Rd w 1 (.slice a.A a.n a.c) a.n (a.l.map strV) ∧ ∀ q ∈ a.l, q.length ≤ maxLen) (hx : (Lit.int .i64 x.n).wf = true) (hm : Mon w) :
    Calls Tryz.prog 6 #[.slice a.A a.n a.c, .agg (camC x)] w fun e w' => e = .returned (.bool true) ∧ Below w.heap.size w w' := by
  obtain ⟨A, n, c, l⟩ := a
  obtain ⟨hR, _⟩ := ha
  simp only at hR ⊢
  have hn : l.length = n := by have := hR.1; simpa using this
  subst hn
  exact cookieSuffix0 A c l x w hR (i64_wfC hx).1 (i64_wfC hx).2 hm
end Go.Proofs.YtgfoaopfdpclhaaGreatDoor
