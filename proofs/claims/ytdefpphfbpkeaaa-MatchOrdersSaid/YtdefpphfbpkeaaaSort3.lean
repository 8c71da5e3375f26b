/-
  The walk: two sorted runs side by side are merged in place: the cases of one item.
-/
import Derived.Test.YtdefpphfbpkeaaaSort2
namespace Go.Proofs.Ytdefpphfbpkeaaa
open Go.RowKit
set_option linter.unusedVariables false

theorem SW3.call {W w w1 : World} {B g : Nat} {L : List It} (h : SW3 W B g L w) (hb : Below w.heap.size w w1) : SW3 W B g L w1 := ⟨h.1.below hb, bel_onto h.2.1 hb h.2.2, Nat.le_trans h.2.2 hb.size⟩
def SymPost (W : World) (B g : Nat) (P S Q : List It) (e : Ending) (w' : World) : Prop := ∃ R, e = .returned (.tuple #[]) ∧ SW3 W B g (P ++ R ++ Q) w' ∧ Srt befI R ∧ StEq befI S R ∧ R.length = S.length

set_option maxRecDepth 100000 in
set_option maxHeartbeats 4000000 in
theorem sym_one (g n c B a m b : Nat) (W w : World) (P V Q : List It) (x : It) (hr : SW3 W B g (P ++ [x] ++ V ++ Q) w) (hn : (P ++ [x] ++ V ++ Q).length = n) (hc : n ≤ c) (hcm : c ≤ maxLen) (hn1 : n ≤ 1000000) (hB : B ≤ g) (ha : P.length = a) (hm : a + 1 = m) (hb : m + V.length = b) (hlim : Lim (P ++ [x] ++ V ++ Q)) (hV : Srt befI V) :
    Calls Try.prog 78 #[.slice (some ⟨g, 0, none⟩) n c, .int .i64 a, .int .i64 m, .int .i64 b, fS] w (SymPost W B g P ([x] ++ V) Q) := by
  have hbn : b ≤ n := by simp at hn; omega
  have hmb : m ≤ b := by omega
  have h1 : ((m : Int) - a) = 1 := by omega
  replace hn := Lib.hid hn
  replace ha := Lib.hid ha
  replace hb := Lib.hid hb
  replace hm := Lib.hid hm
  go_enter Try.func78, Try.ntmps78
  go_wp2
  go_loopw [10, 11] (fun iv jv wr => ∃ (i j : Nat) (V1 V2 V3 : List It), iv = .int .i64 i ∧ jv = .int .i64 j ∧ m ≤ i ∧ i ≤ j ∧ j ≤ b ∧ Hid (V = V1 ++ V2 ++ V3) ∧ Hid (m + V1.length = i) ∧ Hid (i + V2.length = j) ∧ Hid (V1 = [] ∨ ∃ T y, V1 = T ++ [y] ∧ befI y x = true) ∧ Hid (V3 = [] ∨ ∃ y T, V3 = y :: T ∧ befI y x = false) ∧ SW3 W B g (P ++ [x] ++ V ++ Q) wr) (fun iv jv _ => (intOf jv).toNat - (intOf iv).toNat)
  case atStart => exact ⟨m, b, [], V, [], rfl, rfl, Nat.le_refl _, hmb, Nat.le_refl _, by show _ = _; simp, by rfl, hb.out, .inl rfl, .inl rfl, hr⟩
  case round =>
    obtain ⟨i, j, V1, V2, V3, rfl, rfl, hmi, hij, hjb, hVV, hV1, hV2, hL, hH, hrw⟩ := hrel
    clear hr h1
    by_cases hlt : i < j
    · obtain ⟨h, hh⟩ : ∃ h : Nat, h = (i + j) / 2 := ⟨_, rfl⟩
      have hih : i ≤ h := by omega
      have hhj : h < j := by omega
      have e1 : ((i : Int) + j) / 2 = (h : Nat) := by omega
      clear hh
      have f1 : V2 = V2.take (h - i) ++ V2.drop (h - i) := (List.take_append_drop _ V2).symm
      have f2 : (V2.take (h - i)).length = h - i := by have := hV2.out; rw [List.length_take]; omega
      obtain ⟨y, Vb, f3⟩ : ∃ y Vb, V2.drop (h - i) = y :: Vb := by
        cases e : V2.drop (h - i) with
        | nil => exfalso; have h1 : (V2.drop (h - i)).length = 0 := by rw [e]; rfl
                 rw [List.length_drop] at h1; have := hV2.out; omega
        | cons y Vb => exact ⟨y, Vb, rfl⟩
      rw [f3] at f1
      clear f3
      generalize V2.take (h - i) = Va at *
      subst f1
      replace f2 := Lib.hid f2
      have p1 : Hid ((P ++ [x] ++ V1 ++ Va).length = h) := by show _ = _; have h1 := hV1.out; have h2 := f2.out; have h3 := ha.out; have h4 := hm.out; simp; omega
      have q1 := row_app' (k := h) (X := P ++ [x] ++ V1 ++ Va) (Y := Vb ++ V3 ++ Q) (y := y) hrw.1 (by rw [hVV.out]; simp) p1.out
      have q2 := row_app' (k := a) (X := P) (Y := V ++ Q) (y := x) hrw.1 (by simp) ha.out
      have l1 : y.k.p.length ≤ 9223372036854775807 := hlim y (by rw [hVV.out]; simp)
      have l2 : x.k.p.length ≤ 9223372036854775807 := hlim x (by simp)
      have b1 : (h : Int) < n := by omega
      have b2 : (a : Int) < n := by have := hm.out; omega
      have hnext : Hid (∀ wz, Below wr.drew.heap.size wr.drew wz → SW3 W B g (P ++ [x] ++ V ++ Q) wz) := fun wz hz => hrw.call (below_drew_call hz)
      have hlen2 := hV2.out
      simp at hlen2
      replace hlen2 := Lib.hid hlen2
      clear hrw
      cases hq : befI y x with
      | true =>
        have hr : decide (cmpI y x < 0) = true := by rw [befI_cmp]; exact hq
        have hqh := Lib.hid hq
        clear hq
        go_wp2
        go_region_held3 (fun w' => itAt w' g (h * 11) = some y ∧ itAt w' g (a * 11) = some x) (first | exact ⟨it_drew q1, it_drew q2⟩ | exact ⟨itAt_later (it_drew q1) hb1, itAt_later (it_drew q2) hb1⟩) (first | (go_at_call 56; refine (sortF_any _ _ _ l1 l2).mono ?_; rintro e w1 ⟨rfl, hb1⟩))
        have hrw1 := Lib.hid (hnext.out w1 hb1)
        clear q1 q2 hb1 hnext
        go_wp2
        go_roundw
        case rel => exact ⟨h + 1, j, V1 ++ Va ++ [y], Vb, V3, by go_num, rfl, by omega, by omega, hjb, by show _ = _; rw [hVV.out]; simp, by show _ = _; have h1 := hV1.out; have h2 := f2.out; simp; omega, by show _ = _; have := hlen2.out; have h2 := f2.out; omega, .inr ⟨V1 ++ Va, y, rfl, hqh.out⟩, hH.out, hrw1.out⟩
        case measure => simp [intOf]; omega
      | false =>
        have hr : decide (cmpI y x < 0) = false := by rw [befI_cmp]; exact hq
        have hqh := Lib.hid hq
        clear hq
        go_wp2
        go_region_held3 (fun w' => itAt w' g (h * 11) = some y ∧ itAt w' g (a * 11) = some x) (first | exact ⟨it_drew q1, it_drew q2⟩ | exact ⟨itAt_later (it_drew q1) hb1, itAt_later (it_drew q2) hb1⟩) (first | (go_at_call 56; refine (sortF_any _ _ _ l1 l2).mono ?_; rintro e w1 ⟨rfl, hb1⟩))
        have hrw1 := Lib.hid (hnext.out w1 hb1)
        clear q1 q2 hb1 hnext
        go_wp2
        go_roundw
        case rel => exact ⟨i, h, V1, Va, [y] ++ Vb ++ V3, rfl, rfl, hmi, hih, by omega, by show _ = _; rw [hVV.out]; simp, hV1.out, by show _ = _; have h2 := f2.out; omega, hL.out, .inr ⟨y, Vb ++ V3, rfl, hqh.out⟩, hrw1.out⟩
        case measure => simp [intOf]; omega
    · obtain rfl : i = j := by omega
      have e0 : V2 = [] := List.eq_nil_of_length_eq_zero (by have := hV2.out; omega)
      subst e0
      have hVV' : Hid (V = V1 ++ V3) := by show _ = _; rw [hVV.out]; simp
      have hall1 : Hid (∀ y ∈ V1, befI y x = true) := by
        intro y hy
        rcases hL.out with e | ⟨T, z, e, hz⟩
        · rw [e] at hy; cases hy
        · have hs := hV; rw [hVV'.out] at hs
          have hs1 := (srt_app.1 hs).1
          rw [e] at hs1 hy
          rcases List.mem_append.1 hy with hy | hy
          · exact befI_swo.le_lt ((srt_app.1 hs1).2.2 y hy z (by simp)) hz
          · rw [List.mem_singleton.1 hy]; exact hz
      have hall3 : Hid (∀ y ∈ V3, befI y x = false) := by
        intro y hy
        rcases hH.out with e | ⟨z, T, e, hz⟩
        · rw [e] at hy; cases hy
        · have hs := hV; rw [hVV'.out] at hs
          have hs1 := (srt_app.1 hs).2.1
          rw [e] at hs1 hy
          rcases List.mem_cons.1 hy with rfl | hy
          · exact hz
          · exact befI_swo.neg y z x ((srt_cons.1 hs1).1 y hy) hz
      have hfin : Hid (Srt befI (V1 ++ [x] ++ V3) ∧ StEq befI ([x] ++ V) (V1 ++ [x] ++ V3) ∧ (V1 ++ [x] ++ V3).length = ([x] ++ V).length) := by
        have hs := hV; rw [hVV'.out] at hs
        refine ⟨srt_app.2 ⟨srt_app.2 ⟨(srt_app.1 hs).1, srt_one x, fun y hy z hz => ?_⟩, (srt_app.1 hs).2.1, fun y hy z hz => ?_⟩, ?_, ?_⟩
        · rw [List.mem_singleton.1 hz]; exact befI_swo.asym _ _ (hall1.out y hy)
        · rcases List.mem_append.1 hy with hy | hy
          · exact (srt_app.1 hs).2.2 y hy z hz
          · rw [List.mem_singleton.1 hy]; exact hall3.out z hz
        · rw [hVV'.out, ← List.append_assoc]
          refine (steq_swap befI_swo ?_).app (StEq.refl V3)
          intro a ha b hb
          rw [List.mem_singleton.1 ha]; exact hall1.out b hb
        · rw [hVV'.out]; simp; omega
      obtain ⟨p, hp⟩ : ∃ p, p + 1 = i := ⟨i - 1, by have := hm.out; omega⟩
      have e1 : ((i : Int) - 1) = (p : Nat) := by omega
      have hap : a ≤ p := by have := hm.out; omega
      have hpb : p < b := by omega
      have hp' : Hid (a + V1.length = p) := by show _ = _; have h1 := hV1.out; have h2 := hm.out; omega
      have hrw' : Hid (SW3 W B g (P ++ [x] ++ V1 ++ V3 ++ Q) wr) := by show SW3 _ _ _ _ _; have := hrw; rw [hVV'.out] at this; simpa using this
      replace hp := Lib.hid hp
      clear hrw hlt hV2 hVV hL hH
      go_wp2
      go_loopw [13] (fun kv wr => ∃ (k : Nat) (Va Vb : List It), kv = .int .i64 k ∧ a ≤ k ∧ k ≤ p ∧ Hid (V1 = Va ++ Vb) ∧ Hid (a + Va.length = k) ∧ SW3 W B g (P ++ Va ++ [x] ++ Vb ++ V3 ++ Q) wr) (fun kv _ => p - (intOf kv).toNat)
      case atStart => exact ⟨a, [], V1, rfl, Nat.le_refl _, hap, rfl, rfl, by have := hrw'.out; simpa using this⟩
      case round =>
        obtain ⟨k, Va, Vb, rfl, hak, hkp, hVa, hVl, hrw⟩ := hrel
        clear hrw'
        by_cases hlt : k < p
        · obtain ⟨y, Vc, rfl⟩ : ∃ y Vc, Vb = y :: Vc := by
            cases Vb with
            | nil => exfalso; have h1 := hVa.out; have h2 := hVl.out; have h3 := hp'.out; rw [h1] at h3; simp at h3; omega
            | cons y Vc => exact ⟨y, Vc, rfl⟩
          have p1 : Hid ((P ++ Va).length = k) := by show _ = _; have h1 := hVl.out; have h2 := ha.out; simp; omega
          have p2 : Hid ((P ++ Va ++ [x]).length = k + 1) := by show _ = _; rw [List.length_append, p1.out]; rfl
          have h1 := row_app' (k := k) (X := P ++ Va) (Y := y :: Vc ++ V3 ++ Q) (y := x) hrw.1 (by simp) p1.out
          have h2 := row_app' (k := k + 1) (X := P ++ Va ++ [x]) (Y := Vc ++ V3 ++ Q) (y := y) hrw.1 (by simp) p2.out
          have t1 := there_app' (k := k) (X := P ++ Va) (Y := y :: Vc ++ V3 ++ Q) (y := x) hrw.1 (by simp) p1.out
          have t2 := there_app' (k := k + 1) (X := P ++ Va ++ [x]) (Y := Vc ++ V3 ++ Q) (y := y) hrw.1 (by simp) p2.out
          have t3 := World.there_setCells t2 g (k * 11) (cI y)
          have hsw := Lib.hid (swap_far (i := k) (j := k + 1) (X := P ++ Va) (M := []) (Y := Vc ++ V3 ++ Q) (x := x) (y := y) hrw hB (by simp) p1.out (by rw [p1.out]; rfl))
          have b0 : (0 : Int) ≤ (k : Int) := by omega
          have b1 : (k : Int) < n := by omega
          have b2 : (0 : Int) ≤ (k : Int) + 1 := by omega
          have b3 : (k : Int) + 1 < n := by omega
          have b4 : ((k : Int) + 1).toNat = k + 1 := by omega
          have b7 : IntKind.i64.wrap ((k : Int) + 1) = k + 1 := IntWalk.i64_in _ (by omega)
          clear hrw
          go_wp2
          go_region
          clear h1 h2 t1 t2 t3 b0 b1 b2 b3 b4 b7
          generalize ((wr.setCells g (k * 11) (cI y)).setCells g ((k + 1) * 11) (cI x)).drew = w2 at *
          go_wp2
          go_roundw
          case rel => exact ⟨k + 1, Va ++ [y], Vc, by go_num, by omega, by omega, by show _ = _; rw [hVa.out]; simp, by show _ = _; have := hVl.out; simp; omega, by have := hsw.out; simpa using this⟩
          case measure => simp [intOf]; omega
        · obtain rfl : k = p := by omega
          have e2 : Vb = [] := by
            have h1 := hVa.out; have h2 := hVl.out; have h3 := hp'.out; rw [h1] at h3; simp at h3
            exact List.eq_nil_of_length_eq_zero (by omega)
          subst e2
          have hrw2 := Lib.hid hrw
          clear hrw
          go_wp2
          refine bodyPost_ret (results_none rfl _ _ _) rfl ?_
          exact ⟨V1 ++ [x] ++ V3, rfl, by have h1 := hrw2.out; have h2 := hVa.out; rw [h2]; simpa using h1, hfin.out.1, hfin.out.2.1, hfin.out.2.2⟩
end Go.Proofs.Ytdefpphfbpkeaaa
