/-
  The walk: two sorted runs side by side are merged in place.
-/
import Derived.Test.YtdefpphfbpkeaaaSort4
import Derived.Deep.DeepCutAuto
namespace Go.Proofs.Ytdefpphfbpkeaaa
open Go.RowKit
set_option linter.unusedVariables false

theorem sym_halves {α : Type} {lt : α → α → Bool} (hO : Swo lt) {U V : List α} (hU : Srt lt U) (hV : Srt lt V) {i j : Nat} (hi : i ≤ U.length) (hj : j ≤ V.length)
    (h1 : (i = 0 ∨ j = V.length) ∨ ∃ u v, U[i - 1]? = some u ∧ V[j]? = some v ∧ lt v u = false)
    (h2 : (j = 0 ∨ i = U.length) ∨ ∃ u v, U[i]? = some u ∧ V[j - 1]? = some v ∧ lt v u = true) :
    StEq lt (U ++ V) (U.take i ++ V.take j ++ (U.drop i ++ V.drop j)) ∧ Srt lt (U.take i) ∧ Srt lt (V.take j) ∧ Srt lt (U.drop i) ∧ Srt lt (V.drop j) ∧ ∀ x ∈ U.take i ++ V.take j, ∀ y ∈ U.drop i ++ V.drop j, lt y x = false := by
  have last : ∀ {l : List α} {k : Nat}, k ≤ l.length → 0 < k → (l.take k).getLast? = l[k - 1]? := by
    intro l k hk h0
    rw [List.getLast?_eq_getElem?, List.length_take, Nat.min_eq_left hk, List.getElem?_take_of_lt (by omega)]
  have := halves hO (U1 := U.take i) (U2 := U.drop i) (V1 := V.take j) (V2 := V.drop j) (by rw [List.take_append_drop]; exact hU) (by rw [List.take_append_drop]; exact hV) ?_ ?_
  · rw [List.take_append_drop, List.take_append_drop] at this
    exact this
  · intro x hx y hy
    rw [List.head?_drop] at hy
    rcases Nat.eq_zero_or_pos i with e | e
    · subst e; simp at hx
    · rw [last hi e] at hx
      rcases h1 with (h | h) | ⟨u, v, hu, hv, hlt⟩
      · omega
      · subst h; simp at hy
      · rw [hu] at hx; rw [hv] at hy
        cases hx; cases hy
        exact hlt
  · intro y hy x hx
    rw [List.head?_drop] at hx
    rcases Nat.eq_zero_or_pos j with e | e
    · subst e; simp at hy
    · rw [last hj e] at hy
      rcases h2 with (h | h) | ⟨u, v, hu, hv, hlt⟩
      · omega
      · subst h; simp at hx
      · rw [hu] at hx; rw [hv] at hy
        cases hx; cases hy
        exact hlt

/-- What merging two runs is asked to do, where they are together not longer than k. -/
def SymOk (k : Nat) : Prop := ∀ (g n c B a m b : Nat) (W w : World) (P U V Q : List It), b - a ≤ k → SW3 W B g (P ++ U ++ V ++ Q) w → (P ++ U ++ V ++ Q).length = n → n ≤ c → c ≤ maxLen → n ≤ 1000000 → B ≤ g → P.length = a → a + U.length = m → m + V.length = b → Lim (P ++ U ++ V ++ Q) → Srt befI U → Srt befI V → 0 < U.length → 0 < V.length →
    Calls Try.prog 78 #[.slice (some ⟨g, 0, none⟩) n c, .int .i64 a, .int .i64 m, .int .i64 b, fS] w (SymPost W B g P (U ++ V) Q)
theorem row_get {w : World} {g k : Nat} {L X S Y : List It} {y : It} {i : Nat} (h : RowI w g L) (e : L = X ++ S ++ Y) (hs : S[i]? = some y) (hk : X.length + i = k) : itAt w g (k * 11) = some y := by
  subst e hk
  obtain ⟨hi, hy⟩ := List.getElem?_eq_some_iff.1 hs
  have := h.2 (X.length + i) (by simp; omega)
  rw [this]
  rw [List.getElem_append_left (by simp; omega), List.getElem_append_right (by omega)]
  simp [hy]

set_option maxRecDepth 100000 in
set_option maxHeartbeats 8000000 in
theorem sym_gen (k : Nat) (IH : SymOk k) (g n c B a m b : Nat) (W w : World) (P U V Q : List It) (hk : b - a ≤ k + 1) (hr : SW3 W B g (P ++ U ++ V ++ Q) w) (hn : (P ++ U ++ V ++ Q).length = n) (hc : n ≤ c) (hcm : c ≤ maxLen) (hn1 : n ≤ 1000000) (hB : B ≤ g) (ha : P.length = a) (hm : a + U.length = m) (hb : m + V.length = b) (hlim : Lim (P ++ U ++ V ++ Q)) (hU : Srt befI U) (hV : Srt befI V) (hU2 : 2 ≤ U.length) (hV2 : 2 ≤ V.length) :
    Calls Try.prog 78 #[.slice (some ⟨g, 0, none⟩) n c, .int .i64 a, .int .i64 m, .int .i64 b, fS] w (SymPost W B g P (U ++ V) Q) := by
  have hbn : b ≤ n := by simp at hn; omega
  have hmb : m + 2 ≤ b := by omega
  have ham : a + 2 ≤ m := by omega
  have h1 : (((m : Int) - a) == 1) = false := by rw [beq_eq_false_iff_ne]; omega
  have h2 : (((b : Int) - m) == 1) = false := by rw [beq_eq_false_iff_ne]; omega
  obtain ⟨d, hd⟩ : ∃ d : Nat, d = (a + b) / 2 := ⟨_, rfl⟩
  have had : a < d := by omega
  have hdb : d < b := by omega
  have e1 : ((a : Int) + b) / 2 = (d : Nat) := by omega
  obtain ⟨s0, r0, hsr⟩ : ∃ s0 r0 : Nat, (d < m ∧ s0 + b = d + m ∧ r0 = d) ∨ (m ≤ d ∧ s0 = a ∧ r0 = m) := by
    by_cases h : d < m
    · exact ⟨d + m - b, d, .inl ⟨h, by omega, rfl⟩⟩
    · exact ⟨a, m, .inr ⟨by omega, rfl, rfl⟩⟩
  have hs0a : a ≤ s0 := by omega
  have hs0r : s0 ≤ r0 := by omega
  have hr0m : r0 ≤ m := by omega
  have hr0d : r0 ≤ d := by omega
  have hs0b : d + m ≤ b + s0 := by omega
  have hsr' := Lib.hid hsr
  replace hn := Lib.hid hn
  replace ha := Lib.hid ha
  replace hb := Lib.hid hb
  replace hm := Lib.hid hm
  replace hk := Lib.hid hk
  replace hd := Lib.hid hd
  clear hsr hU2 hV2
  go_enter Try.func78, Try.ntmps78
  go_upto_if 140 with (fail)
  go_cut [20, 21] (fun sv rv wr => sv = .int .i64 s0 ∧ rv = .int .i64 r0 ∧ SW3 W B g (P ++ U ++ V ++ Q) wr)
  case first =>
    rcases hsr'.out with ⟨q1, q2, q3⟩ | ⟨q1, q2, q3⟩
    · have e2 : ((d : Int) + m - b) = (s0 : Nat) := by omega
      replace q2 := Lib.hid q2
      replace q3 := Lib.hid q3
      go_wp2
      go_meet
      exact ⟨rfl, by rw [q3.out], hr⟩
    · replace q2 := Lib.hid q2
      replace q3 := Lib.hid q3
      go_wp2
      go_meet
      exact ⟨by rw [q2.out], by rw [q3.out], hr⟩
  case rest =>
    obtain ⟨rfl, rfl, hr1⟩ := hcut
    clear hr h1 h2
    obtain ⟨t, ht⟩ : ∃ t : Nat, t + 1 = d + m := ⟨d + m - 1, by omega⟩
    have e3 : ((d : Int) + m - 1) = (t : Nat) := by omega
    have htb : t < b + s0 := by omega
    have htm : m ≤ t + 1 - r0 := by omega
    replace ht := Lib.hid ht
    go_wp2
    go_loopw [20, 21] (fun sv rv wr => ∃ (s r : Nat), sv = .int .i64 s ∧ rv = .int .i64 r ∧ s0 ≤ s ∧ s ≤ r ∧ r ≤ r0 ∧ Hid (s = s0 ∨ ∃ u v, U[s - a - 1]? = some u ∧ V[t + 1 - s - m]? = some v ∧ befI v u = false) ∧ Hid (r = r0 ∨ ∃ u v, U[r - a]? = some u ∧ V[t - r - m]? = some v ∧ befI v u = true) ∧ SW3 W B g (P ++ U ++ V ++ Q) wr) (fun sv rv _ => (intOf rv).toNat - (intOf sv).toNat)
    case atStart => exact ⟨s0, r0, rfl, rfl, Nat.le_refl _, hs0r, Nat.le_refl _, .inl rfl, .inl rfl, hr1⟩
    case round =>
      obtain ⟨s, r, rfl, rfl, hss, hsr, hrr, hL, hR, hrw⟩ := hrel
      clear hr1
      by_cases hlt : s < r
      · obtain ⟨q, hq⟩ : ∃ q : Nat, q = (s + r) / 2 := ⟨_, rfl⟩
        have hsq : s ≤ q := by omega
        have hqr : q < r := by omega
        have e4 : ((s : Int) + r) / 2 = (q : Nat) := by omega
        clear hq
        have hql : q - a < U.length := by have := hm.out; omega
        have hzl : t - q - m < V.length := by have := hb.out; omega
        obtain ⟨u, hu⟩ : ∃ u, U[q - a]? = some u := ⟨U[q - a], List.getElem?_eq_getElem hql⟩
        obtain ⟨v, hv⟩ : ∃ v, V[t - q - m]? = some v := ⟨V[t - q - m], List.getElem?_eq_getElem hzl⟩
        clear hql hzl
        obtain ⟨z, hz⟩ : ∃ z : Nat, z + q = t := ⟨t - q, by omega⟩
        have e5 : ((t : Int) - q) = (z : Nat) := by omega
        have e7 : IntKind.i64.wrap ((t : Int) - q) = (z : Nat) := by rw [IntWalk.i64_in _ (by omega)]; omega
        have e8 : IntKind.i64.wrap (z : Int) = z := IntWalk.i64_in _ (by omega)
        have b0 : (0 : Int) ≤ z := by omega
        have q1 := row_get (k := q) (X := P) (Y := V ++ Q) hrw.1 (by simp) hu (by have := ha.out; omega)
        have q2 := row_get (k := z) (X := P ++ U) (Y := Q) hrw.1 (by simp) hv (by have h1 := ha.out; have h2 := hm.out; rw [List.length_append]; omega)
        have l1 : u.k.p.length ≤ 9223372036854775807 := hlim u (by have := List.mem_of_getElem? hu; simp [this])
        have l2 : v.k.p.length ≤ 9223372036854775807 := hlim v (by have := List.mem_of_getElem? hv; simp [this])
        have b1 : (q : Int) < n := by omega
        have b2 : (z : Int) < n := by omega
        replace hz := Lib.hid hz
        replace hu := Lib.hid hu
        replace hv := Lib.hid hv
        have hnext : Hid (∀ wz, Below wr.drew.heap.size wr.drew wz → SW3 W B g (P ++ U ++ V ++ Q) wz) := fun wz hz => hrw.call (below_drew_call hz)
        clear hrw
        as_aux_lemma =>
          cases hqq : befI v u with
          | false =>
            have hr : decide (cmpI v u < 0) = false := by rw [befI_cmp]; exact hqq
            have hqh := Lib.hid hqq
            clear hqq
            go_wp2
            go_region_held3 (fun w' => itAt w' g (q * 11) = some u ∧ itAt w' g (z * 11) = some v) (first | exact ⟨it_drew q1, it_drew q2⟩ | exact ⟨itAt_later (it_drew q1) hb1, itAt_later (it_drew q2) hb1⟩) (first | (go_at_call 56; refine (sortF_any _ _ _ l2 l1).mono ?_; rintro e w1 ⟨rfl, hb1⟩))
            have hrw1 := Lib.hid (hnext.out w1 hb1)
            clear q1 q2 hb1 hnext
            go_wp2
            go_roundw
            case rel => exact ⟨q + 1, r, by go_num, rfl, by omega, by omega, hrr, .inr ⟨u, v, by have := hu.out; rw [show q + 1 - a - 1 = q - a by omega]; exact this, by have := hv.out; rw [show t + 1 - (q + 1) - m = t - q - m by omega]; exact this, hqh.out⟩, hR.out, hrw1.out⟩
            case measure => simp [intOf]; omega
          | true =>
            have hr : decide (cmpI v u < 0) = true := by rw [befI_cmp]; exact hqq
            have hqh := Lib.hid hqq
            clear hqq
            go_wp2
            go_region_held3 (fun w' => itAt w' g (q * 11) = some u ∧ itAt w' g (z * 11) = some v) (first | exact ⟨it_drew q1, it_drew q2⟩ | exact ⟨itAt_later (it_drew q1) hb1, itAt_later (it_drew q2) hb1⟩) (first | (go_at_call 56; refine (sortF_any _ _ _ l2 l1).mono ?_; rintro e w1 ⟨rfl, hb1⟩))
            have hrw1 := Lib.hid (hnext.out w1 hb1)
            clear q1 q2 hb1 hnext
            go_wp2
            go_roundw
            case rel => exact ⟨s, q, rfl, rfl, hss, hsq, by omega, hL.out, .inr ⟨u, v, hu.out, hv.out, hqh.out⟩, hrw1.out⟩
            case measure => simp [intOf]; omega
      · obtain rfl : s = r := by omega
        obtain ⟨e, he⟩ : ∃ e : Nat, e + s = d + m := ⟨d + m - s, by omega⟩
        have e6 : ((d : Int) + m - s) = (e : Nat) := by omega
        have hme : m ≤ e := by omega
        have heb : e ≤ b := by omega
        have hde : d ≤ e := by omega
        have hsd : s ≤ d := by omega
        have hsm : s ≤ m := by omega
        have hhv := sym_halves befI_swo hU hV (i := s - a) (j := e - m) (by have := hm.out; omega) (by have := hb.out; omega) ?h1 ?h2
        case h1 =>
          rcases hL.out with h | ⟨u, v, hu, hv, hlt⟩
          · rcases hsr'.out with ⟨q1, q2, q3⟩ | ⟨q1, q2, q3⟩
            · exact .inl (.inr (by have := hb.out; omega))
            · exact .inl (.inl (by omega))
          · exact .inr ⟨u, v, hu, by have := ht.out; rw [show e - m = t + 1 - s - m by omega]; exact hv, hlt⟩
        case h2 =>
          rcases hR.out with h | ⟨u, v, hu, hv, hlt⟩
          · rcases hsr'.out with ⟨q1, q2, q3⟩ | ⟨q1, q2, q3⟩
            · exact .inl (.inl (by omega))
            · exact .inl (.inr (by have := hm.out; omega))
          · exact .inr ⟨u, v, hu, by have := ht.out; rw [show e - m - 1 = t - s - m by omega]; exact hv, hlt⟩
        have k1 : (U.take (s - a)).length = s - a := by have := hm.out; rw [List.length_take]; omega
        have k2 : (V.take (e - m)).length = e - m := by have := hb.out; rw [List.length_take]; omega
        have k3 : (U.drop (s - a)).length = m - s := by have := hm.out; rw [List.length_drop]; omega
        have k4 : (V.drop (e - m)).length = b - e := by have := hb.out; rw [List.length_drop]; omega
        have g1 : U = U.take (s - a) ++ U.drop (s - a) := (List.take_append_drop _ _).symm
        have g2 : V = V.take (e - m) ++ V.drop (e - m) := (List.take_append_drop _ _).symm
        have hrw0 : SW3 W B g (P ++ U.take (s - a) ++ U.drop (s - a) ++ V.take (e - m) ++ V.drop (e - m) ++ Q) wr := by
          have := hrw
          rw [g1, g2] at this
          simpa using this
        generalize U.take (s - a) = U1 at *
        generalize U.drop (s - a) = U2 at *
        generalize V.take (e - m) = V1 at *
        generalize V.drop (e - m) = V2 at *
        replace k1 := Lib.hid k1
        replace k2 := Lib.hid k2
        replace k3 := Lib.hid k3
        replace k4 := Lib.hid k4
        replace g1 := Lib.hid g1
        replace g2 := Lib.hid g2
        have hLm : Hid (Lim P ∧ Lim U1 ∧ Lim U2 ∧ Lim V1 ∧ Lim V2 ∧ Lim Q) := by
          show _ ∧ _
          have := hlim
          rw [g1.out, g2.out, Lim.app, Lim.app, Lim.app, Lim.app, Lim.app] at this
          obtain ⟨⟨⟨lp, l1, l2⟩, l3, l4⟩, lq⟩ := this
          exact ⟨lp, l1, l2, l3, l4, lq⟩
        replace hhv := Lib.hid hhv
        replace he := Lib.hid he
        clear hrw hL hR hlt
        as_aux_lemma =>
          go_upto_region 39 with (fail)
          go_cut [185] (fun v wx => ∃ β : Bool, v = .bool β ∧ Hid (β = true ↔ (s < m ∧ m < e)) ∧ wr = wx)
          case first =>
            by_cases c1 : s < m
            · by_cases c2 : m < e
              · go_wp2
                go_meet
                exact ⟨true, rfl, by show _ ↔ _; simp [c1, c2], rfl⟩
              · go_wp2
                go_meet
                exact ⟨false, rfl, by show _ ↔ _; simp [c2], rfl⟩
            · go_wp2
              go_meet
              exact ⟨false, rfl, by show _ ↔ _; simp [c1], rfl⟩
          case rest =>
          obtain ⟨β, rfl, hβ, rfl⟩ := hcut
          go_upto_if 185 with (fail)
          go_cut [] (fun wx => SW3 W B g (P ++ (U1 ++ V1) ++ (U2 ++ V2) ++ Q) wx)
          case first =>
            cases β with
            | true =>
              have hcd := hβ.out.1 rfl
              have hrot := Lib.hid (rotate_any g n c B s m e W wr (P ++ U1) U2 V1 (V2 ++ Q) (by simpa using hrw0) (by have := hn.out; rw [g1.out, g2.out] at this; simpa using this) hc hcm hn1 hB (by have h1 := ha.out; have h2 := k1.out; rw [List.length_append]; omega) (by have := k3.out; omega) (by have := k2.out; omega) (by have := k3.out; omega) (by have := k2.out; omega))
              clear hcd hβ
              go_wp2_with fail
              refine hrot.out.mono ?_
              rintro e' w1 ⟨rfl, hr1⟩
              clear hrw0 hrot
              go_wp2
              go_meet
              simpa using hr1
            | false =>
              have hcd : ¬ (s < m ∧ m < e) := fun h => by have := hβ.out.2 h; cases this
              have hno : SW3 W B g (P ++ (U1 ++ V1) ++ (U2 ++ V2) ++ Q) wr := by
                by_cases c1 : s < m
                · have e0 : V1 = [] := List.eq_nil_of_length_eq_zero (by have := k2.out; omega)
                  subst e0; simpa using hrw0
                · have e0 : U2 = [] := List.eq_nil_of_length_eq_zero (by have := k3.out; omega)
                  subst e0; simpa using hrw0
              replace hno := Lib.hid hno
              clear hcd hβ hrw0
              go_wp2
              go_meet
              exact hno.out
          case rest =>
          have hrw1 := hcut
          clear hrw0 hβ β hcut
          generalize wc = wA at *
          as_aux_lemma =>
            go_upto_region 41 with (fail)
            go_cut [199] (fun v wx => ∃ β : Bool, v = .bool β ∧ Hid (β = true ↔ (a < s ∧ s < d)) ∧ wA = wx)
            case first =>
              by_cases c1 : a < s
              · by_cases c2 : s < d
                · go_wp2
                  go_meet
                  exact ⟨true, rfl, by show _ ↔ _; simp [c1, c2], rfl⟩
                · go_wp2
                  go_meet
                  exact ⟨false, rfl, by show _ ↔ _; simp [c2], rfl⟩
              · go_wp2
                go_meet
                exact ⟨false, rfl, by show _ ↔ _; simp [c1], rfl⟩
            case rest =>
            obtain ⟨β, rfl, hβ, rfl⟩ := hcut
            go_upto_if 199 with (fail)
            go_cut [] (fun wx => ∃ R1, SW3 W B g (P ++ R1 ++ (U2 ++ V2) ++ Q) wx ∧ Srt befI R1 ∧ StEq befI (U1 ++ V1) R1 ∧ Hid (R1.length = (U1 ++ V1).length))
            case first =>
              cases β with
              | true =>
                have hcd := hβ.out.1 rfl
                have hih := Lib.hid (IH g n c B a s d W wA P U1 V1 ((U2 ++ V2) ++ Q) (by have := hk.out; omega) (by simpa using hrw1) (by have := hn.out; rw [g1.out, g2.out] at this; simp at this ⊢; omega) hc hcm hn1 hB ha.out (by have := k1.out; omega) (by have h1 := k2.out; have h2 := he.out; omega) (Lim.app.2 ⟨Lim.app.2 ⟨Lim.app.2 ⟨hLm.out.1, hLm.out.2.1⟩, hLm.out.2.2.2.1⟩, Lim.app.2 ⟨Lim.app.2 ⟨hLm.out.2.2.1, hLm.out.2.2.2.2.1⟩, hLm.out.2.2.2.2.2⟩⟩) hhv.out.2.1 hhv.out.2.2.1 (by have := k1.out; omega) (by have h1 := k2.out; have h2 := he.out; omega))
                clear hcd hβ
                go_wp2_with fail
                refine hih.out.mono ?_
                rintro e' w1 ⟨R1, rfl, hr1, hr2, hr3, hr4⟩
                replace hr4 := Lib.hid hr4
                clear hrw1 hih
                go_wp2
                go_meet
                exact ⟨R1, by simpa using hr1, hr2, hr3, hr4⟩
              | false =>
                have hcd : ¬ (a < s ∧ s < d) := fun h => by have := hβ.out.2 h; cases this
                have hno : Srt befI (U1 ++ V1) := by
                  by_cases c1 : a < s
                  · have e0 : V1 = [] := List.eq_nil_of_length_eq_zero (by have h1 := k2.out; have h2 := he.out; omega)
                    subst e0; simpa using hhv.out.2.1
                  · have e0 : U1 = [] := List.eq_nil_of_length_eq_zero (by have := k1.out; omega)
                    subst e0; simpa using hhv.out.2.2.1
                replace hno := Lib.hid hno
                clear hcd hβ
                go_wp2
                go_meet
                exact ⟨U1 ++ V1, hrw1, hno.out, StEq.refl _, rfl⟩
            case rest =>
            obtain ⟨R1, hrw2, hR1, hS1, hL1⟩ := hcut
            clear hrw1 hβ β
            generalize wc = wB at *
            as_aux_lemma =>
              go_upto_region 43 with (fail)
              go_cut [213] (fun v wx => ∃ β : Bool, v = .bool β ∧ Hid (β = true ↔ (d < e ∧ e < b)) ∧ wB = wx)
              case first =>
                by_cases c1 : d < e
                · by_cases c2 : e < b
                  · go_wp2
                    go_meet
                    exact ⟨true, rfl, by show _ ↔ _; simp [c1, c2], rfl⟩
                  · go_wp2
                    go_meet
                    exact ⟨false, rfl, by show _ ↔ _; simp [c2], rfl⟩
                · go_wp2
                  go_meet
                  exact ⟨false, rfl, by show _ ↔ _; simp [c1], rfl⟩
              case rest =>
              obtain ⟨β, rfl, hβ, rfl⟩ := hcut
              have hdR : Hid ((P ++ R1).length = d) := by show _ = _; have h1 := hL1.out; have h2 := k1.out; have h3 := k2.out; have h4 := he.out; have h5 := ha.out; simp at h1 ⊢; omega
              cases β with
              | true =>
                have hcd := hβ.out.1 rfl
                have hih := Lib.hid (IH g n c B d e b W wB (P ++ R1) U2 V2 Q (by have := hk.out; omega) (by simpa using hrw2) (by have h1 := hn.out; have h2 := hL1.out; rw [g1.out, g2.out] at h1; simp at h1 h2 ⊢; omega) hc hcm hn1 hB hdR.out (by have h1 := k3.out; have h2 := he.out; omega) (by have h1 := k4.out; omega) (Lim.app.2 ⟨Lim.app.2 ⟨Lim.app.2 ⟨Lim.app.2 ⟨hLm.out.1, (Lim.app.2 ⟨hLm.out.2.1, hLm.out.2.2.2.1⟩ : Lim (U1 ++ V1)).steq hS1⟩, hLm.out.2.2.1⟩, hLm.out.2.2.2.2.1⟩, hLm.out.2.2.2.2.2⟩) hhv.out.2.2.2.1 hhv.out.2.2.2.2.1 (by have := k3.out; have h2 := he.out; omega) (by have h1 := k4.out; omega))
                clear hcd hβ
                go_wp2_with fail
                refine hih.out.mono ?_
                rintro e' w1 ⟨R2, rfl, hr1, hr2, hr3, hr4⟩
                replace hr4 := Lib.hid hr4
                clear hrw2 hih
                go_wp2
                go_end0
                exact ⟨R1 ++ R2, rfl, by simpa using hr1, halves_join hR1 hr2 hhv.out.2.2.2.2.2 befI_swo hS1 hr3, hhv.out.1.trans (hS1.app hr3), by have h1 := hL1.out; have h2 := hr4.out; rw [g1.out, g2.out]; simp at h1 h2 ⊢; omega⟩
              | false =>
                have hcd : ¬ (d < e ∧ e < b) := fun h => by have := hβ.out.2 h; cases this
                have hno : Srt befI (U2 ++ V2) := by
                  by_cases c1 : d < e
                  · have e0 : V2 = [] := List.eq_nil_of_length_eq_zero (by have h1 := k4.out; omega)
                    subst e0; simpa using hhv.out.2.2.2.1
                  · have e0 : U2 = [] := List.eq_nil_of_length_eq_zero (by have := k3.out; have h2 := he.out; omega)
                    subst e0; simpa using hhv.out.2.2.2.2.1
                replace hno := Lib.hid hno
                clear hcd hβ
                go_wp2
                go_end0
                exact ⟨R1 ++ (U2 ++ V2), rfl, by simpa using hrw2, halves_join hR1 hno.out hhv.out.2.2.2.2.2 befI_swo hS1 (StEq.refl _), hhv.out.1.trans (hS1.app (StEq.refl _)), by have h1 := hL1.out; rw [g1.out, g2.out]; simp at h1 ⊢; omega⟩

theorem sym_all : ∀ k, SymOk k
  | 0 => fun g n c B a m b W w P U V Q hk _ _ _ _ _ _ _ hm hb _ _ _ hU hV => absurd hk (by omega)
  | k + 1 => fun g n c B a m b W w P U V Q hk hr hn hc hcm hn1 hB ha hm hb hlim hU hV hU0 hV0 => by
    by_cases h1 : U.length = 1
    · obtain ⟨x, rfl⟩ := List.length_eq_one_iff.1 h1
      exact sym_one g n c B a m b W w P V Q x hr hn hc hcm hn1 hB ha hm hb hlim hV
    · by_cases h2 : V.length = 1
      · obtain ⟨x, rfl⟩ := List.length_eq_one_iff.1 h2
        exact sym_last g n c B a m b W w P U Q x hr hn hc hcm hn1 hB ha hm hb hlim hU h1
      · exact sym_gen k (sym_all k) g n c B a m b W w P U V Q hk hr hn hc hcm hn1 hB ha hm hb hlim hU hV (by omega) (by omega)
end Go.Proofs.Ytdefpphfbpkeaaa
