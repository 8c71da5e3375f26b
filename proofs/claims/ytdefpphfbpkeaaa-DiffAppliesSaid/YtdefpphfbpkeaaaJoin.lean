/-
  Two changes of one key as one.
-/
import Derived.Test.YtdefpphfbpkeaaaThenP
import Derived.Deep.CutBlock
import Derived.Test.YtdefpphfbpkeaaaDiff10
namespace Go.Proofs.Ytdefpphfbpkeaaa
open Go.RowKit
set_option linter.unusedVariables false
set_option linter.unusedSimpArgs false

@[go_sem] theorem cC_set0 (x : Ch) (k : Int) : (cC x).toArray.setIfInBounds 0 (.int .i64 k) = (cC ⟨k, x.o, x.n⟩).toArray := Eq.trans rfl rfl
@[go_sem] theorem cC_set0' (x : Ch) (k : Int) : (cC x).set 0 (.int .i64 k) = cC ⟨k, x.o, x.n⟩ := Eq.trans rfl rfl
theorem own_nilC (w : World) : w.ownsRow w.heap.size 53 23 (.slice none 0 0) 0 (([] : List Ch).flatMap cC) := ⟨rfl, .inl ⟨rfl, rfl⟩⟩
theorem own_newC {w W : World} {B : Nat} (x : Ch) (hB : B ≤ W.heap.size) : (W.alloc (.cells (cC x).toArray 53)).ownsRow B 53 23 (.slice (some ⟨W.heap.size, 0, none⟩) 1 1) 1 ([x].flatMap cC) := by
  have := World.ownsRow_lit (base := B) (e := 53) (size := 23) W (cC x).toArray 1 hB (by unfold maxLen; omega) (by simp)
  rw [List.flatMap_singleton]
  simpa using this
/-- What two changes come to. -/
def JoinPost (x y : Ch) (w : World) (e : Ending) (w' : World) : Prop := ∃ A c, e = .returned (.tuple #[.slice A ((joinL x y).getD []).length c, .bool (joinL x y).isSome]) ∧ w'.ownsRow w.heap.size 53 23 (.slice A ((joinL x y).getD []).length c) ((joinL x y).getD []).length (((joinL x y).getD []).flatMap cC) ∧ Below w.heap.size w w'
theorem JoinPost.none_ {x y : Ch} {w : World} {w' : World} (h : joinL x y = none) (hb : Below w.heap.size w w') : JoinPost x y w (.returned (.tuple #[.slice none 0 0, .bool false])) w' := by
  refine ⟨none, 0, ?_, ?_, hb⟩
  · rw [h]; rfl
  · rw [h]; exact ⟨rfl, .inl ⟨rfl, rfl⟩⟩
theorem JoinPost.nil_ {x y : Ch} {w : World} {w' : World} (h : joinL x y = some []) (hb : Below w.heap.size w w') : JoinPost x y w (.returned (.tuple #[.slice none 0 0, .bool true])) w' := by
  refine ⟨none, 0, ?_, ?_, hb⟩
  · rw [h]; rfl
  · rw [h]; exact ⟨rfl, .inl ⟨rfl, rfl⟩⟩
theorem JoinPost.one_ {x y z : Ch} {w W : World} (g : Nat) (hg : W.heap.size = g) (h : joinL x y = some [z]) (hb : Below w.heap.size w W) : JoinPost x y w (.returned (.tuple #[.slice (some ⟨g, 0, none⟩) 1 1, .bool true])) (W.alloc (.cells (cC z).toArray 53)) := by
  subst hg
  refine ⟨some ⟨W.heap.size, 0, none⟩, 1, ?_, ?_, bel_alloc hb _⟩
  · rw [h]; rfl
  · rw [h]; exact own_newC (w := w) z hb.size
def joiW (w : World) (x y : Ch) : World := (w.alloc (Obj.cells (cC x).toArray 53)).alloc (Obj.cells (cC y).toArray 53)
theorem joiW_bel (w : World) (x y : Ch) : Below w.heap.size w (joiW w x y) := bel_alloc (bel_alloc (Below.refl _ _) _) _
theorem joiW_x (w : World) (x y : Ch) : chAt (joiW w x y) w.heap.size 0 = some x := by unfold joiW; go_simp
theorem joiW_y (w : World) (x y : Ch) : chAt (joiW w x y) (w.heap.size + 1) 0 = some y := by unfold joiW; go_simp

set_option maxHeartbeats 1000000 in
theorem join_10nnnn (x y : Ch) (w : World) (hx2 : (x.kd == 2) = true) (hy1 : (y.kd == 1) = false) : Calls Try.prog 45 #[vC x, vC y] w (JoinPost x y w) := by
  have hfin : Hid (joinL x y = none) := by
    show _ = _
    have px2 : (x.kd = 2) := by simpa using hx2
    have py1 : ¬ (y.kd = 1) := by simpa using hy1
    unfold joinL
    simp [px2, py1]
  have hB := joiW_bel w x y
  obtain ⟨a0, a1, a2, _, _⟩ := ch_parts (joiW_x w x y)
  obtain ⟨b0, b1, b2, _, _⟩ := ch_parts (joiW_y w x y)
  rw [Nat.zero_add] at a1 a2 b1 b2
  have hz : (joiW w x y).heap.size = w.heap.size + 1 + 1 := by unfold joiW; simp
  have hl1 : w.heap.size < (joiW w x y).heap.size := by omega
  have hl2 : w.heap.size + 1 < (joiW w x y).heap.size := by omega
  go_enter Try.func45, Try.ntmps45
  go_upto_region 1 with (fail)
  show Code.wp _ _ _ _ (joiW w x y)
  generalize joiW w x y = W at *
  replace hz := Lib.hid hz
  go_wp2
  go_ret2
  exact JoinPost.none_ hfin.out hB

set_option maxHeartbeats 1000000 in
theorem join_01nnnn (x y : Ch) (w : World) (hx2 : (x.kd == 2) = false) (hy1 : (y.kd == 1) = true) : Calls Try.prog 45 #[vC x, vC y] w (JoinPost x y w) := by
  have hfin : Hid (joinL x y = none) := by
    show _ = _
    have px2 : ¬ (x.kd = 2) := by simpa using hx2
    have py1 : (y.kd = 1) := by simpa using hy1
    unfold joinL
    simp [px2, py1]
  have hB := joiW_bel w x y
  obtain ⟨a0, a1, a2, _, _⟩ := ch_parts (joiW_x w x y)
  obtain ⟨b0, b1, b2, _, _⟩ := ch_parts (joiW_y w x y)
  rw [Nat.zero_add] at a1 a2 b1 b2
  have hz : (joiW w x y).heap.size = w.heap.size + 1 + 1 := by unfold joiW; simp
  have hl1 : w.heap.size < (joiW w x y).heap.size := by omega
  have hl2 : w.heap.size + 1 < (joiW w x y).heap.size := by omega
  go_enter Try.func45, Try.ntmps45
  go_upto_region 1 with (fail)
  show Code.wp _ _ _ _ (joiW w x y)
  generalize joiW w x y = W at *
  replace hz := Lib.hid hz
  go_wp2
  go_ret2
  exact JoinPost.none_ hfin.out hB

set_option maxHeartbeats 1000000 in
theorem join_000nnn (x y : Ch) (w : World) (hx2 : (x.kd == 2) = false) (hy1 : (y.kd == 1) = false) (hkn : decide (x.n = y.o) = false) : Calls Try.prog 45 #[vC x, vC y] w (JoinPost x y w) := by
  have hfin : Hid (joinL x y = none) := by
    show _ = _
    have px2 : ¬ (x.kd = 2) := by simpa using hx2
    have py1 : ¬ (y.kd = 1) := by simpa using hy1
    have pkn : ¬ (x.n = y.o) := by simpa using hkn
    unfold joinL
    simp [px2, py1, pkn]
  have hB := joiW_bel w x y
  obtain ⟨a0, a1, a2, _, _⟩ := ch_parts (joiW_x w x y)
  obtain ⟨b0, b1, b2, _, _⟩ := ch_parts (joiW_y w x y)
  rw [Nat.zero_add] at a1 a2 b1 b2
  have hz : (joiW w x y).heap.size = w.heap.size + 1 + 1 := by unfold joiW; simp
  have hl1 : w.heap.size < (joiW w x y).heap.size := by omega
  have hl2 : w.heap.size + 1 < (joiW w x y).heap.size := by omega
  go_enter Try.func45, Try.ntmps45
  go_upto_region 1 with (fail)
  show Code.wp _ _ _ _ (joiW w x y)
  generalize joiW w x y = W at *
  replace hz := Lib.hid hz
  go_wp2
  go_ret2
  exact JoinPost.none_ hfin.out hB

set_option maxHeartbeats 1000000 in
theorem join_00111n (x y : Ch) (w : World) (hx2 : (x.kd == 2) = false) (hy1 : (y.kd == 1) = false) (hkn : decide (x.n = y.o) = true) (hx1 : (x.kd == 1) = true) (hy2 : (y.kd == 2) = true) : Calls Try.prog 45 #[vC x, vC y] w (JoinPost x y w) := by
  have hfin : Hid (joinL x y = some []) := by
    show _ = _
    have px2 : ¬ (x.kd = 2) := by simpa using hx2
    have py1 : ¬ (y.kd = 1) := by simpa using hy1
    have pkn : (x.n = y.o) := by simpa using hkn
    have px1 : (x.kd = 1) := by simpa using hx1
    have py2 : (y.kd = 2) := by simpa using hy2
    unfold joinL
    simp [px2, py1, pkn, px1, py2]
  have hB := joiW_bel w x y
  obtain ⟨a0, a1, a2, _, _⟩ := ch_parts (joiW_x w x y)
  obtain ⟨b0, b1, b2, _, _⟩ := ch_parts (joiW_y w x y)
  rw [Nat.zero_add] at a1 a2 b1 b2
  have hz : (joiW w x y).heap.size = w.heap.size + 1 + 1 := by unfold joiW; simp
  have hl1 : w.heap.size < (joiW w x y).heap.size := by omega
  have hl2 : w.heap.size + 1 < (joiW w x y).heap.size := by omega
  go_enter Try.func45, Try.ntmps45
  go_upto_region 1 with (fail)
  show Code.wp _ _ _ _ (joiW w x y)
  generalize joiW w x y = W at *
  replace hz := Lib.hid hz
  go_wp2
  go_ret2
  exact JoinPost.nil_ hfin.out (bel_alloc hB _)

set_option maxHeartbeats 1000000 in
theorem join_00110n (x y : Ch) (w : World) (hx2 : (x.kd == 2) = false) (hy1 : (y.kd == 1) = false) (hkn : decide (x.n = y.o) = true) (hx1 : (x.kd == 1) = true) (hy2 : (y.kd == 2) = false) : Calls Try.prog 45 #[vC x, vC y] w (JoinPost x y w) := by
  have hfin : Hid (joinL x y = some [⟨1, x.o, y.n⟩]) := by
    show _ = _
    have px2 : ¬ (x.kd = 2) := by simpa using hx2
    have py1 : ¬ (y.kd = 1) := by simpa using hy1
    have pkn : (x.n = y.o) := by simpa using hkn
    have px1 : (x.kd = 1) := by simpa using hx1
    have py2 : ¬ (y.kd = 2) := by simpa using hy2
    unfold joinL
    simp [px2, py1, pkn, px1, py2]
  have hB := joiW_bel w x y
  obtain ⟨a0, a1, a2, _, _⟩ := ch_parts (joiW_x w x y)
  obtain ⟨b0, b1, b2, _, _⟩ := ch_parts (joiW_y w x y)
  rw [Nat.zero_add] at a1 a2 b1 b2
  have hz : (joiW w x y).heap.size = w.heap.size + 1 + 1 := by unfold joiW; simp
  have hl1 : w.heap.size < (joiW w x y).heap.size := by omega
  have hl2 : w.heap.size + 1 < (joiW w x y).heap.size := by omega
  go_enter Try.func45, Try.ntmps45
  go_upto_region 1 with (fail)
  show Code.wp _ _ _ _ (joiW w x y)
  generalize joiW w x y = W at *
  replace hz := Lib.hid hz
  go_wp2
  go_ret2
  exact JoinPost.one_ _ (by simp) hfin.out (bel_alloc hB _)

set_option maxHeartbeats 1000000 in
theorem join_00101n (x y : Ch) (w : World) (hx2 : (x.kd == 2) = false) (hy1 : (y.kd == 1) = false) (hkn : decide (x.n = y.o) = true) (hx1 : (x.kd == 1) = false) (hy2 : (y.kd == 2) = true) : Calls Try.prog 45 #[vC x, vC y] w (JoinPost x y w) := by
  have hfin : Hid (joinL x y = some [⟨2, x.o, y.n⟩]) := by
    show _ = _
    have px2 : ¬ (x.kd = 2) := by simpa using hx2
    have py1 : ¬ (y.kd = 1) := by simpa using hy1
    have pkn : (x.n = y.o) := by simpa using hkn
    have px1 : ¬ (x.kd = 1) := by simpa using hx1
    have py2 : (y.kd = 2) := by simpa using hy2
    unfold joinL
    simp [px2, py1, pkn, px1, py2]
  have hB := joiW_bel w x y
  obtain ⟨a0, a1, a2, _, _⟩ := ch_parts (joiW_x w x y)
  obtain ⟨b0, b1, b2, _, _⟩ := ch_parts (joiW_y w x y)
  rw [Nat.zero_add] at a1 a2 b1 b2
  have hz : (joiW w x y).heap.size = w.heap.size + 1 + 1 := by unfold joiW; simp
  have hl1 : w.heap.size < (joiW w x y).heap.size := by omega
  have hl2 : w.heap.size + 1 < (joiW w x y).heap.size := by omega
  go_enter Try.func45, Try.ntmps45
  go_upto_region 1 with (fail)
  show Code.wp _ _ _ _ (joiW w x y)
  generalize joiW w x y = W at *
  replace hz := Lib.hid hz
  go_wp2
  go_ret2
  exact JoinPost.one_ _ (by simp) hfin.out (bel_alloc hB _)

set_option maxHeartbeats 1000000 in
theorem join_001001 (x y : Ch) (w : World) (hx2 : (x.kd == 2) = false) (hy1 : (y.kd == 1) = false) (hkn : decide (x.n = y.o) = true) (hx1 : (x.kd == 1) = false) (hy2 : (y.kd == 2) = false) (hon : decide (x.o = y.n) = true) : Calls Try.prog 45 #[vC x, vC y] w (JoinPost x y w) := by
  have hfin : Hid (joinL x y = some []) := by
    show _ = _
    have px2 : ¬ (x.kd = 2) := by simpa using hx2
    have py1 : ¬ (y.kd = 1) := by simpa using hy1
    have pkn : (x.n = y.o) := by simpa using hkn
    have px1 : ¬ (x.kd = 1) := by simpa using hx1
    have py2 : ¬ (y.kd = 2) := by simpa using hy2
    have pon : (x.o = y.n) := by simpa using hon
    unfold joinL
    simp [px2, py1, pkn, px1, py2, pon]
  have hB := joiW_bel w x y
  obtain ⟨a0, a1, a2, _, _⟩ := ch_parts (joiW_x w x y)
  obtain ⟨b0, b1, b2, _, _⟩ := ch_parts (joiW_y w x y)
  rw [Nat.zero_add] at a1 a2 b1 b2
  have hz : (joiW w x y).heap.size = w.heap.size + 1 + 1 := by unfold joiW; simp
  have hl1 : w.heap.size < (joiW w x y).heap.size := by omega
  have hl2 : w.heap.size + 1 < (joiW w x y).heap.size := by omega
  go_enter Try.func45, Try.ntmps45
  go_upto_region 1 with (fail)
  show Code.wp _ _ _ _ (joiW w x y)
  generalize joiW w x y = W at *
  replace hz := Lib.hid hz
  go_wp2
  go_ret2
  exact JoinPost.nil_ hfin.out (bel_alloc hB _)

set_option maxHeartbeats 1000000 in
theorem join_001000 (x y : Ch) (w : World) (hx2 : (x.kd == 2) = false) (hy1 : (y.kd == 1) = false) (hkn : decide (x.n = y.o) = true) (hx1 : (x.kd == 1) = false) (hy2 : (y.kd == 2) = false) (hon : decide (x.o = y.n) = false) : Calls Try.prog 45 #[vC x, vC y] w (JoinPost x y w) := by
  have hfin : Hid (joinL x y = some [⟨3, x.o, y.n⟩]) := by
    show _ = _
    have px2 : ¬ (x.kd = 2) := by simpa using hx2
    have py1 : ¬ (y.kd = 1) := by simpa using hy1
    have pkn : (x.n = y.o) := by simpa using hkn
    have px1 : ¬ (x.kd = 1) := by simpa using hx1
    have py2 : ¬ (y.kd = 2) := by simpa using hy2
    have pon : ¬ (x.o = y.n) := by simpa using hon
    unfold joinL
    simp [px2, py1, pkn, px1, py2, pon]
  have hB := joiW_bel w x y
  obtain ⟨a0, a1, a2, _, _⟩ := ch_parts (joiW_x w x y)
  obtain ⟨b0, b1, b2, _, _⟩ := ch_parts (joiW_y w x y)
  rw [Nat.zero_add] at a1 a2 b1 b2
  have hz : (joiW w x y).heap.size = w.heap.size + 1 + 1 := by unfold joiW; simp
  have hl1 : w.heap.size < (joiW w x y).heap.size := by omega
  have hl2 : w.heap.size + 1 < (joiW w x y).heap.size := by omega
  go_enter Try.func45, Try.ntmps45
  go_upto_region 1 with (fail)
  show Code.wp _ _ _ _ (joiW w x y)
  generalize joiW w x y = W at *
  replace hz := Lib.hid hz
  go_wp2
  go_ret2
  exact JoinPost.one_ _ (by simp) hfin.out (bel_alloc hB _)

set_option maxHeartbeats 1000000 in
theorem join_110nnn (x y : Ch) (w : World) (hx2 : (x.kd == 2) = true) (hy1 : (y.kd == 1) = true) (hkn : decide (x.n = y.o) = false) : Calls Try.prog 45 #[vC x, vC y] w (JoinPost x y w) := by
  have hfin : Hid (joinL x y = none) := by
    show _ = _
    have px2 : (x.kd = 2) := by simpa using hx2
    have py1 : (y.kd = 1) := by simpa using hy1
    have pkn : ¬ (x.n = y.o) := by simpa using hkn
    unfold joinL
    simp [px2, py1, pkn]
  have hB := joiW_bel w x y
  obtain ⟨a0, a1, a2, _, _⟩ := ch_parts (joiW_x w x y)
  obtain ⟨b0, b1, b2, _, _⟩ := ch_parts (joiW_y w x y)
  rw [Nat.zero_add] at a1 a2 b1 b2
  have hz : (joiW w x y).heap.size = w.heap.size + 1 + 1 := by unfold joiW; simp
  have hl1 : w.heap.size < (joiW w x y).heap.size := by omega
  have hl2 : w.heap.size + 1 < (joiW w x y).heap.size := by omega
  go_enter Try.func45, Try.ntmps45
  go_upto_region 1 with (fail)
  show Code.wp _ _ _ _ (joiW w x y)
  generalize joiW w x y = W at *
  replace hz := Lib.hid hz
  go_wp2
  go_ret2
  exact JoinPost.none_ hfin.out hB

theorem join_11111n (x y : Ch) (w : World) (hx2 : (x.kd == 2) = true) (hy1 : (y.kd == 1) = true) (hkn : decide (x.n = y.o) = true) (hx1 : (x.kd == 1) = true) (hy2 : (y.kd == 2) = true) : Calls Try.prog 45 #[vC x, vC y] w (JoinPost x y w) := by
  have a := eq_of_beq hx2
  have b := eq_of_beq hx1
  omega

theorem join_11110n (x y : Ch) (w : World) (hx2 : (x.kd == 2) = true) (hy1 : (y.kd == 1) = true) (hkn : decide (x.n = y.o) = true) (hx1 : (x.kd == 1) = true) (hy2 : (y.kd == 2) = false) : Calls Try.prog 45 #[vC x, vC y] w (JoinPost x y w) := by
  have a := eq_of_beq hx2
  have b := eq_of_beq hx1
  omega

theorem join_11101n (x y : Ch) (w : World) (hx2 : (x.kd == 2) = true) (hy1 : (y.kd == 1) = true) (hkn : decide (x.n = y.o) = true) (hx1 : (x.kd == 1) = false) (hy2 : (y.kd == 2) = true) : Calls Try.prog 45 #[vC x, vC y] w (JoinPost x y w) := by
  have a := eq_of_beq hy1
  have b := eq_of_beq hy2
  omega

set_option maxHeartbeats 1000000 in
theorem join_111001 (x y : Ch) (w : World) (hx2 : (x.kd == 2) = true) (hy1 : (y.kd == 1) = true) (hkn : decide (x.n = y.o) = true) (hx1 : (x.kd == 1) = false) (hy2 : (y.kd == 2) = false) (hon : decide (x.o = y.n) = true) : Calls Try.prog 45 #[vC x, vC y] w (JoinPost x y w) := by
  have hfin : Hid (joinL x y = some []) := by
    show _ = _
    have px2 : (x.kd = 2) := by simpa using hx2
    have py1 : (y.kd = 1) := by simpa using hy1
    have pkn : (x.n = y.o) := by simpa using hkn
    have px1 : ¬ (x.kd = 1) := by simpa using hx1
    have py2 : ¬ (y.kd = 2) := by simpa using hy2
    have pon : (x.o = y.n) := by simpa using hon
    unfold joinL
    simp [px2, py1, pkn, px1, py2, pon]
  have hB := joiW_bel w x y
  obtain ⟨a0, a1, a2, _, _⟩ := ch_parts (joiW_x w x y)
  obtain ⟨b0, b1, b2, _, _⟩ := ch_parts (joiW_y w x y)
  rw [Nat.zero_add] at a1 a2 b1 b2
  have hz : (joiW w x y).heap.size = w.heap.size + 1 + 1 := by unfold joiW; simp
  have hl1 : w.heap.size < (joiW w x y).heap.size := by omega
  have hl2 : w.heap.size + 1 < (joiW w x y).heap.size := by omega
  go_enter Try.func45, Try.ntmps45
  go_upto_region 1 with (fail)
  show Code.wp _ _ _ _ (joiW w x y)
  generalize joiW w x y = W at *
  replace hz := Lib.hid hz
  go_wp2
  go_ret2
  exact JoinPost.nil_ hfin.out (bel_alloc hB _)

set_option maxHeartbeats 1000000 in
theorem join_111000 (x y : Ch) (w : World) (hx2 : (x.kd == 2) = true) (hy1 : (y.kd == 1) = true) (hkn : decide (x.n = y.o) = true) (hx1 : (x.kd == 1) = false) (hy2 : (y.kd == 2) = false) (hon : decide (x.o = y.n) = false) : Calls Try.prog 45 #[vC x, vC y] w (JoinPost x y w) := by
  have hfin : Hid (joinL x y = some [⟨3, x.o, y.n⟩]) := by
    show _ = _
    have px2 : (x.kd = 2) := by simpa using hx2
    have py1 : (y.kd = 1) := by simpa using hy1
    have pkn : (x.n = y.o) := by simpa using hkn
    have px1 : ¬ (x.kd = 1) := by simpa using hx1
    have py2 : ¬ (y.kd = 2) := by simpa using hy2
    have pon : ¬ (x.o = y.n) := by simpa using hon
    unfold joinL
    simp [px2, py1, pkn, px1, py2, pon]
  have hB := joiW_bel w x y
  obtain ⟨a0, a1, a2, _, _⟩ := ch_parts (joiW_x w x y)
  obtain ⟨b0, b1, b2, _, _⟩ := ch_parts (joiW_y w x y)
  rw [Nat.zero_add] at a1 a2 b1 b2
  have hz : (joiW w x y).heap.size = w.heap.size + 1 + 1 := by unfold joiW; simp
  have hl1 : w.heap.size < (joiW w x y).heap.size := by omega
  have hl2 : w.heap.size + 1 < (joiW w x y).heap.size := by omega
  go_enter Try.func45, Try.ntmps45
  go_upto_region 1 with (fail)
  show Code.wp _ _ _ _ (joiW w x y)
  generalize joiW w x y = W at *
  replace hz := Lib.hid hz
  go_wp2
  go_ret2
  exact JoinPost.one_ _ (by simp) hfin.out (bel_alloc hB _)

theorem join_any (x y : Ch) (w : World) : Calls Try.prog 45 #[vC x, vC y] w (JoinPost x y w) := by
  cases h1 : (x.kd == 2) <;> cases h2 : (y.kd == 1)
  · cases h3 : decide (x.n = y.o)
    · exact join_000nnn x y w h1 h2 h3
    · cases h4 : (x.kd == 1) <;> cases h5 : (y.kd == 2)
      · cases h6 : decide (x.o = y.n)
        · exact join_001000 x y w h1 h2 h3 h4 h5 h6
        · exact join_001001 x y w h1 h2 h3 h4 h5 h6
      · exact join_00101n x y w h1 h2 h3 h4 h5
      · exact join_00110n x y w h1 h2 h3 h4 h5
      · exact join_00111n x y w h1 h2 h3 h4 h5
  · exact join_01nnnn x y w h1 h2
  · exact join_10nnnn x y w h1 h2
  · cases h3 : decide (x.n = y.o)
    · exact join_110nnn x y w h1 h2 h3
    · cases h4 : (x.kd == 1) <;> cases h5 : (y.kd == 2)
      · cases h6 : decide (x.o = y.n)
        · exact join_111000 x y w h1 h2 h3 h4 h5 h6
        · exact join_111001 x y w h1 h2 h3 h4 h5 h6
      · exact join_11101n x y w h1 h2 h3 h4 h5
      · exact join_11110n x y w h1 h2 h3 h4 h5
      · exact join_11111n x y w h1 h2 h3 h4 h5
end Go.Proofs.Ytdefpphfbpkeaaa
