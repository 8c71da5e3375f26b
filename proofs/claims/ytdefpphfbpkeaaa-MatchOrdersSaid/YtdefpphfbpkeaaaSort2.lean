/-
  The walks: two runs of items exchanged, two runs side by side turned about.
-/
import Derived.Test.YtdefpphfbpkeaaaSort1
namespace Go.Proofs.Ytdefpphfbpkeaaa
open Go.RowKit
set_option linter.unusedVariables false

theorem swap_far {W w : World} {B g i j : Nat} {L X M Y : List It} {x y : It} (h : SW3 W B g L w) (hB : B ≤ g) (e : L = X ++ [x] ++ M ++ [y] ++ Y) (hi : X.length = i) (hj : X.length + 1 + M.length = j) :
    SW3 W B g (X ++ [y] ++ M ++ [x] ++ Y) ((w.setCells g (i * 11) (cI y)).setCells g (j * 11) (cI x)).drew := by
  subst e hi hj
  have := SW3.set2 (i := X.length) (j := X.length + 1 + M.length) y x h hB (by simp) (by simp; omega)
  rw [show ((X ++ [x] ++ M ++ [y] ++ Y).set X.length y).set (X.length + 1 + M.length) x = X ++ [y] ++ M ++ [x] ++ Y by
    have e1 : (X ++ [x] ++ M ++ [y] ++ Y).set X.length y = X ++ [y] ++ M ++ [y] ++ Y := by simp
    rw [e1]
    have e2 : X.length + 1 + M.length = (X ++ [y] ++ M).length := by simp; omega
    rw [e2, List.append_assoc (X ++ [y] ++ M), List.set_append_right _ _ (Nat.le_refl _), Nat.sub_self]
    simp] at this
  exact this

set_option maxHeartbeats 2000000 in
theorem swapRange_any (g n c B a b k : Nat) (W w : World) (P X M Y Q : List It) (hr : SW3 W B g (P ++ X ++ M ++ Y ++ Q) w) (hn : (P ++ X ++ M ++ Y ++ Q).length = n) (hc : n ≤ c) (hcm : c ≤ maxLen) (hn1 : n ≤ 1000000) (hB : B ≤ g) (ha : P.length = a) (hb : a + k + M.length = b) (hX : X.length = k) (hY : Y.length = k) :
    Calls Try.prog 98 #[.slice (some ⟨g, 0, none⟩) n c, .int .i64 a, .int .i64 b, .int .i64 k, fS] w fun e w' => e = .returned (.tuple #[]) ∧ SW3 W B g (P ++ Y ++ M ++ X ++ Q) w' := by
  unfold maxLen at hcm
  have hbn : b + k ≤ n := by simp only [List.length_append] at hn; omega
  have hab : a + k ≤ b := by omega
  replace hn := Lib.hid hn
  replace ha := Lib.hid ha
  replace hb := Lib.hid hb
  replace hX := Lib.hid hX
  replace hY := Lib.hid hY
  go_enter Try.func98, Try.ntmps98
  go_wp2
  go_loopw [10] (fun iv wr => ∃ (i : Nat) (X1 X2 Y1 Y2 : List It), i ≤ k ∧ iv = .int .i64 i ∧ Hid (X = X1 ++ X2) ∧ Hid (Y = Y1 ++ Y2) ∧ Hid (X1.length = i) ∧ Hid (Y1.length = i) ∧ SW3 W B g (P ++ (Y1 ++ X2) ++ M ++ (X1 ++ Y2) ++ Q) wr) (fun iv _ => k - (intOf iv).toNat)
  case atStart => exact ⟨0, [], X, [], Y, Nat.zero_le _, rfl, rfl, rfl, rfl, rfl, hr⟩
  case round =>
    obtain ⟨i, X1, X2, Y1, Y2, hik, rfl, hXX, hYY, hX1, hY1, hrw⟩ := hrel
    clear hr
    by_cases hlt : i < k
    · obtain ⟨x, X3, rfl⟩ : ∃ x X3, X2 = x :: X3 := by
        cases X2 with
        | nil => exfalso; have h1 := hXX.out; have h2 := hX.out; have h3 := hX1.out; rw [h1] at h2; simp at h2; omega
        | cons x X3 => exact ⟨x, X3, rfl⟩
      obtain ⟨y, Y3, rfl⟩ : ∃ y Y3, Y2 = y :: Y3 := by
        cases Y2 with
        | nil => exfalso; have h1 := hYY.out; have h2 := hY.out; have h3 := hY1.out; rw [h1] at h2; simp at h2; omega
        | cons x X3 => exact ⟨x, X3, rfl⟩
      have hX3 : Hid (X3.length + i + 1 = k) := by show _ = _; have h1 := hX.out; have h2 := hX1.out; rw [hXX.out] at h1; simp at h1; omega
      have p1 : Hid ((P ++ Y1).length = a + i) := by show _ = _; rw [List.length_append, ha.out, hY1.out]
      have p2 : Hid ((P ++ Y1 ++ [x] ++ X3 ++ M ++ X1).length = b + i) := by show _ = _; have h1 := ha.out; have h2 := hY1.out; have h3 := hX1.out; have h4 := hX3.out; have h5 := hb.out; simp; omega
      have h1 := row_app' (k := a + i) (X := P ++ Y1) (Y := X3 ++ M ++ (X1 ++ y :: Y3) ++ Q) (y := x) hrw.1 (by simp) p1.out
      have h2 := row_app' (k := b + i) (X := P ++ Y1 ++ [x] ++ X3 ++ M ++ X1) (Y := Y3 ++ Q) (y := y) hrw.1 (by simp) p2.out
      have t1 := there_app' (k := a + i) (X := P ++ Y1) (Y := X3 ++ M ++ (X1 ++ y :: Y3) ++ Q) (y := x) hrw.1 (by simp) p1.out
      have t2 := there_app' (k := b + i) (X := P ++ Y1 ++ [x] ++ X3 ++ M ++ X1) (Y := Y3 ++ Q) (y := y) hrw.1 (by simp) p2.out
      have t3 := World.there_setCells t2 g ((a + i) * 11) (cI y)
      have hsw := Lib.hid (swap_far (i := a + i) (j := b + i) (X := P ++ Y1) (M := X3 ++ M ++ X1) (Y := Y3 ++ Q) (x := x) (y := y) hrw hB (by simp) p1.out (by have := p2.out; simp at this ⊢; omega))
      have b0 : (0 : Int) ≤ (a : Int) + i := by omega
      have b1 : (a : Int) + i < n := by omega
      have b2 : (0 : Int) ≤ (b : Int) + i := by omega
      have b3 : (b : Int) + i < n := by omega
      have b4 : ((a : Int) + i).toNat = a + i := by omega
      have b5 : ((b : Int) + i).toNat = b + i := by omega
      have b6 : IntKind.i64.wrap ((a : Int) + i) = a + i := IntWalk.i64_in _ (by omega)
      have b7 : IntKind.i64.wrap ((b : Int) + i) = b + i := IntWalk.i64_in _ (by omega)
      clear hrw
      go_wp2
      go_region
      clear h1 h2 t1 t2 t3 b0 b1 b2 b3 b4 b5 b6 b7
      generalize ((wr.setCells g ((a + i) * 11) (cI y)).setCells g ((b + i) * 11) (cI x)).drew = w2 at *
      go_wp2
      go_roundw
      case rel => exact ⟨i + 1, X1 ++ [x], X3, Y1 ++ [y], Y3, by omega, by go_num, by show _ = _; rw [hXX.out]; simp, by show _ = _; rw [hYY.out]; simp, by show _ = _; rw [List.length_append, hX1.out]; rfl, by show _ = _; rw [List.length_append, hY1.out]; rfl, by have := hsw.out; simpa using this⟩
      case measure => simp [intOf]; omega
    · obtain rfl : i = k := by omega
      have e1 : X2 = [] := by
        have h1 := hXX.out; have h2 := hX.out; have h3 := hX1.out; rw [h1] at h2; simp at h2
        exact List.eq_nil_of_length_eq_zero (by omega)
      have e2 : Y2 = [] := by
        have h1 := hYY.out; have h2 := hY.out; have h3 := hY1.out; rw [h1] at h2; simp at h2
        exact List.eq_nil_of_length_eq_zero (by omega)
      subst e1 e2
      go_wp2
      go_end0
      exact ⟨rfl, by rw [hXX.out, hYY.out]; simpa using hrw⟩

set_option maxHeartbeats 2000000 in
theorem rotate_any (g n c B a m b : Nat) (W w : World) (P X Y Q : List It) (hr : SW3 W B g (P ++ X ++ Y ++ Q) w) (hn : (P ++ X ++ Y ++ Q).length = n) (hc : n ≤ c) (hcm : c ≤ maxLen) (hn1 : n ≤ 1000000) (hB : B ≤ g) (ha : P.length = a) (hm : a + X.length = m) (hb : m + Y.length = b) (hX : 0 < X.length) (hY : 0 < Y.length) :
    Calls Try.prog 88 #[.slice (some ⟨g, 0, none⟩) n c, .int .i64 a, .int .i64 m, .int .i64 b, fS] w fun e w' => e = .returned (.tuple #[]) ∧ SW3 W B g (P ++ Y ++ X ++ Q) w' := by
  have hbn : b ≤ n := by simp only [List.length_append] at hn; omega
  have ham : a < m := by omega
  have hmb : m < b := by omega
  replace hn := Lib.hid hn
  replace ha := Lib.hid ha
  replace hb := Lib.hid hb
  replace hm := Lib.hid hm
  have hi0 : ((m : Int) - a) = X.length := by have := hm.out; omega
  have hj0 : ((b : Int) - m) = Y.length := by have := hb.out; omega
  replace hX := Lib.hid hX
  replace hY := Lib.hid hY
  go_enter Try.func88, Try.ntmps88
  go_wp2
  clear hi0 hj0
  go_loopw [10, 11] (fun iv jv wr => ∃ (i j q : Nat) (X1 Y1 D1 D2 : List It), iv = .int .i64 i ∧ jv = .int .i64 j ∧ 0 < i ∧ 0 < j ∧ m + j ≤ b ∧ Hid (X1.length = i) ∧ Hid (Y1.length = j) ∧ Hid ((P ++ D1).length = q) ∧ Hid (q + i = m) ∧ SW3 W B g (P ++ D1 ++ X1 ++ Y1 ++ D2 ++ Q) wr ∧ Hid (D1 ++ Y1 ++ X1 ++ D2 = Y ++ X)) (fun iv jv _ => (intOf iv).toNat + (intOf jv).toNat)
  case atStart => exact ⟨X.length, Y.length, a, X, Y, [], [], rfl, rfl, hX.out, hY.out, by have := hb.out; omega, rfl, rfl, by show _ = _; rw [List.append_nil]; exact ha.out, hm.out, by simpa using hr, by show _ = _; simp⟩
  case round =>
    obtain ⟨i, j, q, X1, Y1, D1, D2, rfl, rfl, hi, hj, hjb, hX1, hY1, hq, hqi, hrw, hE⟩ := hrel
    clear hr
    have hl : Hid ((P ++ D1 ++ X1 ++ Y1 ++ D2 ++ Q).length = n) := by
      show _ = _
      have h1 := hn.out
      have h2 := congrArg List.length hE.out
      simp at h1 h2 ⊢; omega
    have hqa : a ≤ q := by have h1 := hq.out; have h2 := ha.out; simp at h1; omega
    have him : i ≤ m := by have := hqi.out; omega
    have e1 : ((m : Int) - i) = q := by have := hqi.out; omega
    rcases Nat.lt_trichotomy i j with hij | hij | hij
    · have hne : ((i : Int) != j) = true := by rw [bne_iff_ne]; omega
      have hng : ¬ j < i := by omega
      obtain ⟨z, hz⟩ : ∃ z, Hid (z + i = j) := ⟨j - i, by show _ = _; omega⟩
      have e2 : ((m : Int) + j - i) = (m + z : Nat) := by have := hz.out; omega
      have e3 : ((j : Int) - i) = (z : Nat) := by have := hz.out; omega
      have hzp : 0 < z := by have := hz.out; omega
      have f1 : Y1 = Y1.take z ++ Y1.drop z := (List.take_append_drop z Y1).symm
      have f2 : (Y1.take z).length = z := by rw [List.length_take, hY1.out]; have := hz.out; omega
      have f3 : (Y1.drop z).length = i := by rw [List.length_drop, hY1.out]; have := hz.out; omega
      generalize Y1.take z = Ya at *
      generalize Y1.drop z = Yb at *
      replace f1 := Lib.hid f1
      replace f2 := Lib.hid f2
      replace f3 := Lib.hid f3
      have hsr := swapRange_any g n c B q (m + z) i W wr (P ++ D1) X1 Ya Yb (D2 ++ Q) (by have := hrw; rw [f1.out] at this; simpa using this) (by have := hl.out; rw [f1.out] at this; simp at this ⊢; omega) hc hcm hn1 hB hq.out (by have h1 := hqi.out; have h2 := f2.out; omega) hX1.out f3.out
      replace hsr := Lib.hid hsr
      go_wp2_with fail
      refine hsr.out.mono ?_
      rintro e w1 ⟨rfl, hr1⟩
      replace hr1 := Lib.hid hr1
      clear hrw hsr
      go_wp2
      go_roundw
      case rel => exact ⟨i, z, q, Yb, Ya, D1, X1 ++ D2, rfl, rfl, hi, hzp, by have := hz.out; omega, f3.out, f2.out, hq.out, hqi.out, by have := hr1.out; simpa using this, by show _ = _; rw [← hE.out, f1.out]; simp⟩
      case measure => simp [intOf]; have := hz.out; omega
    · subst hij
      have hne : ((i : Int) != i) = false := by simp
      have hsr := Lib.hid (swapRange_any g n c B q m i W wr (P ++ D1) X1 [] Y1 (D2 ++ Q) (by have := hrw; simpa using this) (by have := hl.out; simp at this ⊢; omega) hc hcm hn1 hB hq.out (by have h1 := hqi.out; simp; omega) hX1.out hY1.out)
      go_wp2_with fail
      refine hsr.out.mono ?_
      rintro e w1 ⟨rfl, hr1⟩
      replace hr1 := Lib.hid hr1
      clear hrw hsr
      go_wp2
      go_end0
      have h2 := hr1.out
      have h3 := congrArg (fun l => P ++ l ++ Q) hE.out
      simp at h2 h3 ⊢
      rw [← h3]; exact h2
    · have hne : ((i : Int) != j) = true := by rw [bne_iff_ne]; omega
      obtain ⟨z, hz⟩ : ∃ z, Hid (z + j = i) := ⟨i - j, by show _ = _; omega⟩
      have e3 : ((i : Int) - j) = (z : Nat) := by have := hz.out; omega
      have hzp : 0 < z := by have := hz.out; omega
      have f1 : X1 = X1.take j ++ X1.drop j := (List.take_append_drop j X1).symm
      have f2 : (X1.take j).length = j := by rw [List.length_take, hX1.out]; omega
      have f3 : (X1.drop j).length = z := by rw [List.length_drop, hX1.out]; have := hz.out; omega
      generalize X1.take j = Xa at *
      generalize X1.drop j = Xb at *
      replace f1 := Lib.hid f1
      replace f2 := Lib.hid f2
      replace f3 := Lib.hid f3
      have hsr := Lib.hid (swapRange_any g n c B q m j W wr (P ++ D1) Xa Xb Y1 (D2 ++ Q) (by have := hrw; rw [f1.out] at this; simpa using this) (by have := hl.out; rw [f1.out] at this; simp at this ⊢; omega) hc hcm hn1 hB hq.out (by have h1 := hqi.out; have h2 := f3.out; have h3 := hz.out; omega) f2.out hY1.out)
      go_wp2_with fail
      refine hsr.out.mono ?_
      rintro e w1 ⟨rfl, hr1⟩
      replace hr1 := Lib.hid hr1
      clear hrw hsr
      go_wp2
      go_roundw
      case rel => exact ⟨z, j, q + j, Xb, Xa, D1 ++ Y1, D2, rfl, rfl, hzp, hj, hjb, f3.out, f2.out, by show _ = _; have h1 := hq.out; have h2 := hY1.out; simp at h1 ⊢; omega, by show _ = _; have h1 := hqi.out; have h2 := hz.out; omega, by have := hr1.out; simpa using this, by show _ = _; rw [← hE.out, f1.out]; simp⟩
      case measure => simp [intOf]; have := hz.out; omega
end Go.Proofs.Ytdefpphfbpkeaaa
