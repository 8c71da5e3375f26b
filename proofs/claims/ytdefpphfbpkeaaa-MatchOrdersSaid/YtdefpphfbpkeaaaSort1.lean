/-
  The walk: a block of items is sorted by insertion.
-/
import Derived.Test.YtdefpphfbpkeaaaMatchO
import Derived.Deep.QuietTactic
import Derived.BigQuiet
import Derived.IntWalk
namespace Go.Proofs.Ytdefpphfbpkeaaa
open Go.RowKit
set_option linter.unusedVariables false

/-- A block holds items, as many as there are. -/
def RowI (w : World) (g : Nat) (L : List It) : Prop := w.there g 0 (L.length * 11) ∧ ∀ j (hj : j < L.length), itAt w g (j * 11) = some L[j]
theorem RowI.lt {w : World} {g : Nat} {L : List It} (h : RowI w g L) (hL : 0 < L.length) : g < w.heap.size := it_lt (h.2 0 hL)
theorem RowI.below {w w' : World} {g : Nat} {L : List It} (h : RowI w g L) (hb : Below w.heap.size w w') : RowI w' g L := by
  rcases Nat.eq_zero_or_pos L.length with e | e
  · refine ⟨fun j hj => absurd hj (by omega), fun j hj => absurd hj (by omega)⟩
  · have hlt := h.lt e
    refine ⟨fun j hj => ?_, fun j hj => itAt_later (h.2 j hj) hb⟩
    rw [hb.cell (p := ⟨g, 0 + j, none⟩) hlt, hb.frozen (p := ⟨g, 0 + j, none⟩) hlt]
    exact h.1 j hj
theorem RowI.there {w : World} {g : Nat} {L : List It} (h : RowI w g L) {i : Nat} (hi : i < L.length) : w.there g (i * 11) 11 := fun j hj => by
  have e : (i + 1) * 11 ≤ L.length * 11 := Nat.mul_le_mul_right _ hi
  have := h.1 (i * 11 + j) (by omega)
  rwa [Nat.zero_add] at this
theorem RowI.set {w : World} {g : Nat} {L : List It} (h : RowI w g L) {i : Nat} (hi : i < L.length) (x : It) : RowI (w.setCells g (i * 11) (cI x)) g (L.set i x) := by
  refine ⟨?_, fun j hj => ?_⟩
  · rw [List.length_set]; exact World.there_setCells h.1 g _ _
  · rw [List.length_set] at hj
    by_cases e : i = j
    · subst e
      rw [List.getElem_set_self]
      exact itAt_of (World.rangeAt_setCells_same w g (i * 11) (cI x) (h.there hi))
    · rw [List.getElem_set_ne e]
      refine itAt_of (World.rangeAt_setCells_apart (rdAt_range (f := cI) (h.2 j hj)) _ _ _ (.inr ?_))
      rw [cI_len, cI_len]
      omega
/-- Two exchanged. -/
theorem set_swap (P Q : List It) (x y : It) : ((P ++ [x, y] ++ Q).set P.length y).set (P.length + 1) x = P ++ [y, x] ++ Q := by
  rw [List.append_assoc, List.set_append_right _ _ (Nat.le_refl _), Nat.sub_self, List.append_assoc]
  rw [List.set_append_right _ _ (by omega), Nat.add_sub_cancel_left]
  rfl
theorem set_swap' (P Q : List It) (x y : It) : ((P ++ [x, y] ++ Q).set (P.length + 1) x).set P.length y = P ++ [y, x] ++ Q := by
  rw [List.append_assoc, List.set_append_right _ _ (by omega), Nat.add_sub_cancel_left, List.append_assoc]
  rw [List.set_append_right _ _ (Nat.le_refl _), Nat.sub_self]
  rfl
def Lim (l : List It) : Prop := ∀ x ∈ l, x.k.p.length ≤ 9223372036854775807
theorem Lim.steq {l m : List It} (h : Lim l) (e : StEq befI l m) : Lim m := fun x hx => h x (steq_mem befI_swo e.symm hx)
theorem Lim.app {l m : List It} : Lim (l ++ m) ↔ Lim l ∧ Lim m := by
  unfold Lim; simp only [List.mem_append]
  exact ⟨fun h => ⟨fun x hx => h x (.inl hx), fun x hx => h x (.inr hx)⟩, fun h x hx => hx.elim (h.1 x) (h.2 x)⟩
/-- The value that the sort is handed. -/
abbrev fS : Value := .func (.func 56) #[] #[]

theorem isort_none (A : Option Addr) (n c a : Nat) (w : World) (ha : a ≤ 1000000) :
    Calls Try.prog 77 #[.slice A n c, .int .i64 a, .int .i64 a, fS] w fun e w' => e = .returned (.tuple #[]) ∧ w = w' := by
  have h1 : ¬ ((a : Int) + 1 < a) := by omega
  go_enter Try.func77, Try.ntmps77
  go_wp2
  go_rounds 1
  go_end0
  exact ⟨rfl, rfl⟩
theorem below_drew_call {w w1 : World} (h : Below w.drew.heap.size w.drew w1) : Below w.heap.size w w1 := bel_call (Below.refl _ _).drew h
theorem row_app {w : World} {g : Nat} {X Y : List It} {y : It} (h : RowI w g (X ++ [y] ++ Y)) : itAt w g (X.length * 11) = some y := by
  have := h.2 X.length (by simp)
  rw [this]; simp
theorem row_app' {w : World} {g k : Nat} {L X Y : List It} {y : It} (h : RowI w g L) (e : L = X ++ [y] ++ Y) (hk : X.length = k) : itAt w g (k * 11) = some y := by
  subst e hk; exact row_app h
theorem there_app' {w : World} {g k : Nat} {L X Y : List It} {y : It} (h : RowI w g L) (e : L = X ++ [y] ++ Y) (hk : X.length = k) : w.there g (k * 11) 11 := by
  subst e hk; exact h.there (by simp)

def SW3 (W : World) (B g : Nat) (L : List It) (w : World) : Prop := RowI w g L ∧ Below B W w ∧ B ≤ w.heap.size
theorem SW3.drew {W w : World} {B g : Nat} {L : List It} (h : SW3 W B g L w) : SW3 W B g L w.drew := ⟨h.1.below (Below.refl _ _).drew, h.2.1.drew, h.2.2⟩
theorem setCells_hs (g : Nat) : ∀ (l : List Value) (o : Nat) (v : World), (v.setCells g o l).heap.size = v.heap.size
  | [], _, _ => rfl
  | a :: r, o, v => (setCells_hs g r (o + 1) (v.setCell ⟨g, o, none⟩ a)).trans (by simp [World.setCell])
theorem SW3.set {W w : World} {B g : Nat} {L : List It} (h : SW3 W B g L w) (hB : B ≤ g) {i : Nat} (hi : i < L.length) (x : It) : SW3 W B g (L.set i x) (w.setCells g (i * 11) (cI x)) :=
  ⟨h.1.set hi x, below_setCells g (cI x) (i * 11) h.2.1 hB, by rw [setCells_hs]; exact h.2.2⟩
theorem SW3.set2 {W w : World} {B g : Nat} {L : List It} {i j : Nat} (x y : It) (h : SW3 W B g L w) (hB : B ≤ g) (hi : i < L.length) (hj : j < L.length) : SW3 W B g ((L.set i x).set j y) ((w.setCells g (i * 11) (cI x)).setCells g (j * 11) (cI y)).drew :=
  ((h.set hB hi x).set hB (by rw [List.length_set]; exact hj) y).drew
theorem swap_step {w W : World} {g B m : Nat} {L X Y : List It} {x y : It} (h : SW3 W B g L w) (hB : B ≤ g) (e : L = X ++ [y] ++ [x] ++ Y) (hm : X.length = m) :
    SW3 W B g (X ++ [x] ++ [y] ++ Y) ((w.setCells g ((m + 1) * 11) (cI y)).setCells g (m * 11) (cI x)).drew := by
  subst e hm
  have := SW3.set2 (i := X.length + 1) (j := X.length) y x h hB (by simp) (by simp)
  rw [show ((X ++ [y] ++ [x] ++ Y).set (X.length + 1) y).set X.length x = X ++ [x] ++ [y] ++ Y by
    simp] at this
  exact this
set_option maxHeartbeats 2000000 in
theorem isort_any (g n c B a b : Nat) (W w : World) (P S Q : List It) (hr : RowI w g (P ++ S ++ Q)) (hn : (P ++ S ++ Q).length = n) (hc : n ≤ c) (hcm : c ≤ maxLen) (hn1 : n ≤ 1000000) (hB : B ≤ g) (hbel : Below B W w) (hs : B ≤ w.heap.size) (hlim : Lim (P ++ S ++ Q)) (hS : 0 < S.length) (ha : P.length = a) (hb : a + S.length = b) :
    Calls Try.prog 77 #[.slice (some ⟨g, 0, none⟩) n c, .int .i64 a, .int .i64 b, fS] w fun e w' => ∃ R, e = .returned (.tuple #[]) ∧ RowI w' g (P ++ R ++ Q) ∧ Srt befI R ∧ StEq befI S R ∧ R.length = S.length ∧ Below B W w' ∧ B ≤ w'.heap.size := by
  unfold maxLen at hcm
  have hbn : b ≤ n := by simp only [List.length_append] at hn; omega
  have han : a < b := by omega
  replace hn := Lib.hid hn
  replace ha := Lib.hid ha
  replace hb := Lib.hid hb
  obtain ⟨x0, S0, hS0⟩ : ∃ x0 S0, S = x0 :: S0 := by cases S with | nil => cases hS | cons a b => exact ⟨a, b, rfl⟩
  replace hS0 := Lib.hid hS0
  clear hS
  go_enter Try.func77, Try.ntmps77
  go_wp2
  go_loopw [8] (fun i wr => ∃ (k : Nat) (S1 T R : List It), k ≤ b ∧ Hid (a + R.length = k) ∧ Hid (S = S1 ++ T) ∧ i = .int .i64 k ∧ RowI wr g (P ++ R ++ T ++ Q) ∧ Srt befI R ∧ StEq befI S1 R ∧ Hid (R.length = S1.length) ∧ Below B W wr ∧ B ≤ wr.heap.size) (fun i _ => b - (intOf i).toNat)
  case atStart => exact ⟨a + 1, [x0], S0, [x0], by omega, rfl, hS0.out, by go_num, by rw [hS0.out] at hr; simpa using hr, srt_one _, StEq.refl _, rfl, hbel, hs⟩
  case round =>
    obtain ⟨k, S1, T, R, hkb, hkR, hST, rfl, hrow, hsrt, hst, hRl, hbl, hsz⟩ := hrel
    clear hr hbel hs
    have hRS : R.length + T.length = S.length := by rw [hRl.out, hST.out, List.length_append]
    cases T with
    | nil =>
      obtain rfl : k = b := by have h1 := hkR.out; have h2 := hb.out; simp at hRS; omega
      go_wp2
      go_end0
      exact ⟨R, rfl, by simpa using hrow, hsrt, by have := hST.out; rw [List.append_nil] at this; rw [this]; exact hst, by simpa using hRS, hbl, hsz⟩
    | cons x T =>
      have hkb' : k < b := by have h1 := hkR.out; have h2 := hb.out; rw [List.length_cons] at hRS; omega
      replace hRS := Lib.hid hRS
      have hlimx : x.k.p.length ≤ 9223372036854775807 := hlim x (by rw [hST.out]; simp)
      go_wp2
      go_loopw [9] (fun jv wq => ∃ (j : Nat) (R1 R2 : List It), a ≤ j ∧ j ≤ k ∧ jv = .int .i64 j ∧ Hid (R = R1 ++ R2) ∧ Hid (a + R1.length = j) ∧ RowI wq g (P ++ (R1 ++ [x] ++ R2) ++ T ++ Q) ∧ Hid (∀ y ∈ R2, befI x y = true) ∧ Below B W wq ∧ B ≤ wq.heap.size) (fun jv _ => (intOf jv).toNat)
      case atStart => exact ⟨k, R, [], by have := hkR.out; omega, Nat.le_refl _, rfl, (List.append_nil R).symm, hkR.out, by simpa using hrow, fun y hy => absurd hy (by simp), hbl, hsz⟩
      case round =>
        obtain ⟨j, R1, R2, haj, hjk, rfl, hRR, hjR, hrw, hall, hbq, hsq⟩ := hrel
        clear hrow hbl hsz
        have hout : Hid (∀ wz : World, Below B W wz → B ≤ wz.heap.size → RowI wz g (P ++ (R1 ++ [x] ++ R2) ++ T ++ Q) → (R1 = [] ∨ ∃ T y, R1 = T ++ [y] ∧ befI x y = false) → ∃ (k' : Nat) (S1 T R : List It), k' ≤ b ∧ Hid (a + R.length = k') ∧ Hid (S = S1 ++ T) ∧ Value.int .i64 ((k : Int) + 1) = .int .i64 k' ∧ RowI wz g (P ++ R ++ T ++ Q) ∧ Srt befI R ∧ StEq befI S1 R ∧ Hid (R.length = S1.length) ∧ Below B W wz ∧ B ≤ wz.heap.size) := by
          intro wz hbz hsz hrz hcase
          have hq := ins_ok befI_swo (S1 := R1) (S2 := R2) (x := x) (by rw [← hRR.out]; exact hsrt) hall.out hcase
          refine ⟨k + 1, S1 ++ [x], T, R1 ++ [x] ++ R2, by omega, ?_, ?_, by go_num, hrz, hq.1, ?_, ?_, hbz, hsz⟩
          · show _ = _
            have h1 := hkR.out; rw [hRR.out] at h1; simp at h1 ⊢; omega
          · show S = _; rw [hST.out]; simp
          · refine StEq.trans (hst.app (StEq.refl [x])) ?_
            rw [hRR.out]; exact hq.2
          · show _ = _
            have h1 := hRl.out; rw [hRR.out] at h1; simp at h1 ⊢; omega
        rcases List.eq_nil_or_concat R1 with e1 | ⟨R0, y, e1⟩
        · subst e1
          obtain rfl : j = a := by have := hjR.out; simpa using this.symm
          have hfin := Lib.hid (fun q => hout.out (wr.drewN q) (below_drews hbq q) hsq (hrw.below (below_drews (Below.refl _ _) q)) (.inl rfl))
          go_wp2
          go_quiet (fail)
          go_wp2
          go_roundw
          case rel => exact hfin.out nq
          case measure => simp [intOf]; omega
        · rw [List.concat_eq_append] at e1
          subst e1
          obtain ⟨m, rfl⟩ : ∃ m, j = m + 1 := ⟨a + R0.length, by have := hjR.out; simp at this; omega⟩
          have hm : Hid (P.length + R0.length = m) := by show _ = _; have h1 := hjR.out; have h2 := ha.out; simp at h1; omega
          have ham : a ≤ m := by have := hm.out; have := ha.out; omega
          have h1 := Lib.hid (row_app' (k := m) (X := P ++ R0) (Y := [x] ++ R2 ++ T ++ Q) (y := y) hrw (by simp) (by rw [List.length_append]; exact hm.out))
          have h2 := Lib.hid (row_app' (k := m + 1) (X := P ++ R0 ++ [y]) (Y := R2 ++ T ++ Q) (y := x) hrw (by simp) (by rw [List.length_append, List.length_append, hm.out]; rfl))
          have t1 := Lib.hid (there_app' (k := m) (X := P ++ R0) (Y := [x] ++ R2 ++ T ++ Q) (y := y) hrw (by simp) (by rw [List.length_append]; exact hm.out))
          have t2 := Lib.hid (there_app' (k := m + 1) (X := P ++ R0 ++ [y]) (Y := R2 ++ T ++ Q) (y := x) hrw (by simp) (by rw [List.length_append, List.length_append, hm.out]; rfl))
          have hlimy : y.k.p.length ≤ 9223372036854775807 := hlim y (by have : y ∈ S1 := steq_mem befI_swo hst.symm (by rw [hRR.out]; simp); rw [hST.out]; simp [this])
          have b0 : (0 : Int) ≤ (m : Int) := by omega
          have b1 : (m : Int) < n := by omega
          have b2 : (0 : Int) ≤ (m : Int) + 1 := by omega
          have b3 : (m : Int) + 1 < n := by omega
          have b4 : ((m : Int) + 1).toNat = m + 1 := by omega
          have b5 : IntKind.i64.wrap ((m : Int) + 1 - 1) = m := by rw [IntWalk.i64_in _ (by omega)]; omega
          have b6 : IntKind.i64.wrap (m : Int) = m := IntWalk.i64_in _ (by omega)
          have b7 : (a : Int) < (m : Int) + 1 := by omega
          cases hq : befI x y with
          | false =>
            have hr : decide (cmpI x y < 0) = false := by rw [befI_cmp]; exact hq
            have hfin := Lib.hid (fun wz hbz => hout.out wz (bel_onto hbq (below_drew_call hbz) hsq) (Nat.le_trans hsq hbz.size) (hrw.below (below_drew_call hbz)) (.inr ⟨R0, y, rfl, hq⟩))
            clear hq hout hrw
            go_wp2
            have q1 := h1.out
            have q2 := h2.out
            go_region_held3 (fun w' => itAt w' g (m * 11) = some y ∧ itAt w' g ((m + 1) * 11) = some x) (first | exact ⟨it_drew q1, it_drew q2⟩ | exact ⟨itAt_later (it_drew q1) hb1, itAt_later (it_drew q2) hb1⟩) (first | (go_at_call 56; refine (sortF_any _ _ _ hlimx hlimy).mono ?_; rintro e w1 ⟨rfl, hb1⟩))
            have hfin2 := Lib.hid (hfin.out w1 hb1)
            clear q1 q2 hb1 hfin
            go_wp2
            go_roundw
            case rel => exact hfin2.out
            case measure => simp [intOf]; omega
          | true =>
            have hr : decide (cmpI x y < 0) = true := by rw [befI_cmp]; exact hq
            have hqh := Lib.hid hq
            clear hq hout
            go_wp2
            have q1 := h1.out
            have q2 := h2.out
            go_region_held3 (fun w' => itAt w' g (m * 11) = some y ∧ itAt w' g ((m + 1) * 11) = some x) (first | exact ⟨it_drew q1, it_drew q2⟩ | exact ⟨itAt_later (it_drew q1) hb1, itAt_later (it_drew q2) hb1⟩) (first | (go_at_call 56; refine (sortF_any _ _ _ hlimx hlimy).mono ?_; rintro e w1 ⟨rfl, hb1⟩))
            have hbq1 := bel_onto hbq (below_drew_call hb1) hsq
            have hsq1 := Nat.le_trans hsq hb1.size
            have hrw1 := hrw.below (below_drew_call hb1)
            clear hr hb1 hbq hsq hrw q1 q2 h1 h2 t1 t2
            have h1 := row_app' (k := m) (X := P ++ R0) (Y := [x] ++ R2 ++ T ++ Q) (y := y) hrw1 (by simp) (by rw [List.length_append]; exact hm.out)
            have h2 := row_app' (k := m + 1) (X := P ++ R0 ++ [y]) (Y := R2 ++ T ++ Q) (y := x) hrw1 (by simp) (by rw [List.length_append, List.length_append, hm.out]; rfl)
            have t1 := there_app' (k := m) (X := P ++ R0) (Y := [x] ++ R2 ++ T ++ Q) (y := y) hrw1 (by simp) (by rw [List.length_append]; exact hm.out)
            have t2 := there_app' (k := m + 1) (X := P ++ R0 ++ [y]) (Y := R2 ++ T ++ Q) (y := x) hrw1 (by simp) (by rw [List.length_append, List.length_append, hm.out]; rfl)
            have t3 := World.there_setCells t1 g ((m + 1) * 11) (cI y)
            go_wp2
            go_region
            have hsw := Lib.hid (swap_step (X := P ++ R0) (Y := R2 ++ T ++ Q) (m := m) (x := x) (y := y) ⟨hrw1, hbq1, hsq1⟩ hB (by simp) (by rw [List.length_append]; exact hm.out))
            generalize ((w1.setCells g ((m + 1) * 11) (cI y)).setCells g (m * 11) (cI x)).drew = w2 at *
            clear h1 h2 t1 t2 t3 hrw1 hbq1 hsq1
            go_wp2
            go_roundw
            case rel => exact ⟨m, R0, y :: R2, ham, by omega, by go_num, by show _ = _; rw [hRR.out]; simp, by show _ = _; have h1 := hm.out; have h2 := ha.out; omega, by have := hsw.out.1; simpa using this, by
              intro z hz
              rcases List.mem_cons.1 hz with rfl | hz
              · exact hqh.out
              · exact hall.out z hz, hsw.out.2.1, hsw.out.2.2⟩
            case measure => simp [intOf]
end Go.Proofs.Ytdefpphfbpkeaaa
