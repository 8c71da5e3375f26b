/-
  Which of two keys is less: the program's and the document's walk.
-/
import Derived.Test.YtgfoaopfdpclhaaItem
import Derived.Lib.Bytealg
import Derived.Handy
import Derived.StillTailTactics
import Derived.Deep.RegionHeld3
namespace Go.Proofs.Ytgfoaopfdpclhaa
open Go.RowKit
set_option linter.unusedVariables false

/-- Less, as texts of bytes are. -/
def ltB (a b : List UInt8) : Bool := Op.bytesLess a b
theorem ltB_of (a b : List UInt8) : Op.bytesLess a b = ltB a b := rfl
def lessK (a b : Ky) : Bool := if a.n ≠ b.n then ltB a.n b.n else if a.d ≠ b.d then ltB a.d b.d else ltB a.p b.p

theorem refLess_any (a b : Ky) (w : World) : Calls Try.prog 63 #[vK a, vK b] w fun e w' => e = .returned (.bool (lessK a b)) ∧ Below w.heap.size w w' := by
  have hB : Below w.heap.size w ((w.alloc (Obj.cells (cK a).toArray 23)).alloc (Obj.cells (cK b).toArray 23)) := bel_alloc (bel_alloc (Below.refl _ _) _) _
  by_cases h1 : a.n = b.n
  · by_cases h2 : a.d = b.d
    · have e : lessK a b = ltB a.p b.p := by unfold lessK; simp [h1, h2]
      go_enter Try.func63, Try.ntmps63
      go_wp2
      go_ret
      exact ⟨ret_bool e.symm, hB⟩
    · have e : lessK a b = ltB a.d b.d := by unfold lessK; simp [h1, h2]
      replace h2 : (a.d == b.d) = false := by simpa using h2
      go_enter Try.func63, Try.ntmps63
      go_wp2
      go_ret
      exact ⟨ret_bool e.symm, hB⟩
  · have e : lessK a b = ltB a.n b.n := by unfold lessK; simp [h1]
    replace h1 : (a.n == b.n) = false := by simpa using h1
    go_enter Try.func63, Try.ntmps63
    go_wp2
    go_ret
    exact ⟨ret_bool e.symm, hB⟩

theorem compareString_any (a b : ByteArray) (w : World) : Calls Try.prog 103 #[.string a, .string b] w fun e w' => e = .returned (.int .i64 (Lib.compareBytes a.data.toList b.data.toList)) ∧ w = w' := by
  have hd : (callFunc 107 #[.string a, .string b]).run Try.prog w = .ok (.value (.int .i64 (Lib.compareBytes a.data.toList b.data.toList))) w := by
    rw [run_callFunc_extern Try.func107 (by kernel_rfl) (by kernel_rfl) (by kernel_rfl) (e := Extern.BytealgCompare.compare) (by kernel_rfl), Lib.run_compareString]
    rfl
  generalize Lib.compareBytes a.data.toList b.data.toList = r at hd ⊢
  go_enter Try.func103, Try.ntmps103
  go_wp2
  go_ret
  exact ⟨rfl, rfl⟩
theorem compareB_lt : ∀ a b : List UInt8, decide (Lib.compareBytes a b < 0) = ltB a b
  | [], [] => rfl
  | [], _ :: _ => rfl
  | _ :: _, [] => rfl
  | x :: a, y :: b => by
    have ih := compareB_lt a b
    unfold ltB at ih ⊢
    unfold Lib.compareBytes Op.bytesLess
    by_cases h : x < y
    · simp [h]
    · by_cases h2 : y < x
      · have : ¬ x = y := fun e => by subst e; exact UInt8.lt_irrefl x h2
        simp [h, h2, this]
      · have : x = y := by
          apply UInt8.le_antisymm
          · exact UInt8.not_lt.1 h2
          · exact UInt8.not_lt.1 h
        simp [this, ih]
theorem compareB_eq : ∀ a b : List UInt8, Lib.compareBytes a b = 0 ↔ a = b
  | [], [] => by simp [Lib.compareBytes]
  | [], _ :: _ => by simp [Lib.compareBytes]
  | _ :: _, [] => by simp [Lib.compareBytes]
  | x :: a, y :: b => by
    have ih := compareB_eq a b
    unfold Lib.compareBytes
    by_cases h : x < y
    · have : ¬ x = y := fun e => by subst e; exact UInt8.lt_irrefl x h
      simp [h, this]
    · by_cases h2 : y < x
      · have : ¬ x = y := fun e => by subst e; exact UInt8.lt_irrefl x h2
        simp [h, h2, this]
      · have : x = y := by
          apply UInt8.le_antisymm
          · exact UInt8.not_lt.1 h2
          · exact UInt8.not_lt.1 h
        simp [this, ih]
/-- Which of two texts is ahead, as a number. -/
def cmpB (a b : List UInt8) : Int := Lib.compareBytes a b
theorem compare_any (a b : List UInt8) (w : World) : Calls Try.prog 95 #[.string (S a), .string (S b)] w fun e w' => e = .returned (.int .i64 (cmpB a b)) ∧ w = w' := by
  go_enter Try.func95, Try.ntmps95
  go_wp2_with fail
  refine (compareString_any (S a) (S b) w).mono ?_
  rintro e w1 ⟨rfl, rfl⟩
  go_wp2
  go_ret
  exact ⟨rfl, rfl⟩
/-- The first of three numbers that is not 0. -/
def orI (a b c : Int) : Int := if a ≠ 0 then a else if b ≠ 0 then b else c
theorem orI_1 {a b c : Int} (h : (a != 0) = true) : orI a b c = a := by unfold orI; rw [if_pos (by simpa using h)]
theorem orI_2 {a b c : Int} (h : (a != 0) = false) (h2 : (b != 0) = true) : orI a b c = b := by
  unfold orI; rw [if_neg (by simpa using h), if_pos (by simpa using h2)]
theorem orI_3 {a b c : Int} (h : (a != 0) = false) (h2 : (b != 0) = false) : orI a b c = c := by
  unfold orI; rw [if_neg (by simpa using h), if_neg (by simpa using h2)]
theorem or_any (a b c : Int) (g : Nat) (w : World) (h0 : w.cell? ⟨g, 0, none⟩ = some (.int .i64 a)) (h1 : w.cell? ⟨g, 1, none⟩ = some (.int .i64 b)) (h2 : w.cell? ⟨g, 2, none⟩ = some (.int .i64 c)) :
    Calls Try.prog 94 #[.slice (some ⟨g, 0, none⟩) 3 3] w fun e w' => e = .returned (.int .i64 (orI a b c)) ∧ w = w' := by
  have hb : (a != 0) = true ∨ ((a != 0) = false ∧ (b != 0) = true) ∨ ((a != 0) = false ∧ (b != 0) = false ∧ (c != 0) = true) ∨ ((a != 0) = false ∧ (b != 0) = false ∧ (c != 0) = false) := by
    cases a != 0 <;> cases b != 0 <;> cases c != 0 <;> simp
  rcases hb with e1 | ⟨e1, e2⟩ | ⟨e1, e2, e3⟩ | ⟨e1, e2, e3⟩
  · go_enter Try.func94, Try.ntmps94
    go_wp2
    go_rounds 1
    go_ret
    exact ⟨ret_int (orI_1 e1).symm, rfl⟩
  · go_enter Try.func94, Try.ntmps94
    go_wp2
    go_rounds 2
    go_ret
    exact ⟨ret_int (orI_2 e1 e2).symm, rfl⟩
  · go_enter Try.func94, Try.ntmps94
    go_wp2
    go_rounds 3
    go_ret
    exact ⟨ret_int (orI_3 e1 e2).symm, rfl⟩
  · have e4 : c = 0 := by simpa using e3
    go_enter Try.func94, Try.ntmps94
    go_wp2
    go_rounds 4
    go_ret
    exact ⟨ret_int (by rw [orI_3 e1 e2, e4]), rfl⟩
theorem orI_keys (a b : Ky) : decide (orI (cmpB a.n b.n) (cmpB a.d b.d) (cmpB a.p b.p) < 0) = lessK a b := by
  unfold lessK orI cmpB
  simp only [← compareB_eq, ← compareB_lt, ne_eq]
  split
  · rfl
  · split <;> rfl
theorem or_new (a b c : Int) (W : World) (t g : Nat) (hg : W.heap.size = g) : Calls Try.prog 94 #[.slice (some ⟨g, 0, none⟩) 3 3] (W.alloc (.cells #[.int .i64 a, .int .i64 b, .int .i64 c] t)).drew fun e w' => e = .returned (.int .i64 (orI a b c)) ∧ (W.alloc (.cells #[.int .i64 a, .int .i64 b, .int .i64 c] t)).drew = w' := by
  subst hg
  have hb := Blk.new_ W t #[.int .i64 a, .int .i64 b, .int .i64 c]
  exact or_any a b c _ _ (hb.cell 0) (hb.cell 1) (hb.cell 2)
def cmpK (a b : Ky) : Int := orI (cmpB a.n b.n) (cmpB a.d b.d) (cmpB a.p b.p)
set_option maxHeartbeats 1000000 in
theorem keys_any (a b : Ky) (w : World) : Calls Try.prog 79 #[vK a, vK b] w fun e w' => e = .returned (.int .i64 (cmpK a b)) ∧ Below w.heap.size w w' := by
  go_enter Try.func79, Try.ntmps79
  go_wp2
  have hB : Below w.heap.size w ((w.alloc (Obj.cells (cK a).toArray 23)).alloc (Obj.cells (cK b).toArray 23)) := bel_alloc (bel_alloc (Below.refl _ _) _) _
  generalize hg : w.heap.size = g at *
  replace hg := Lib.hid hg
  have hs1 : g + 1 < ((w.alloc (Obj.cells (cK a).toArray 23)).alloc (Obj.cells (cK b).toArray 23)).heap.size := by rw [← hg.out]; simp
  have c0 : ((w.alloc (Obj.cells (cK a).toArray 23)).alloc (Obj.cells (cK b).toArray 23)).cell? ⟨g, 0, none⟩ = some (.string (S a.n)) := by rw [← hg.out]; simp
  have c1 : ((w.alloc (Obj.cells (cK a).toArray 23)).alloc (Obj.cells (cK b).toArray 23)).cell? ⟨g, 1, none⟩ = some (.string (S a.d)) := by rw [← hg.out]; simp
  have c2 : ((w.alloc (Obj.cells (cK a).toArray 23)).alloc (Obj.cells (cK b).toArray 23)).cell? ⟨g, 2, none⟩ = some (.string (S a.p)) := by rw [← hg.out]; simp
  have d0 : ((w.alloc (Obj.cells (cK a).toArray 23)).alloc (Obj.cells (cK b).toArray 23)).cell? ⟨g + 1, 0, none⟩ = some (.string (S b.n)) := by rw [← hg.out]; simp
  have d1 : ((w.alloc (Obj.cells (cK a).toArray 23)).alloc (Obj.cells (cK b).toArray 23)).cell? ⟨g + 1, 1, none⟩ = some (.string (S b.d)) := by rw [← hg.out]; simp
  have d2 : ((w.alloc (Obj.cells (cK a).toArray 23)).alloc (Obj.cells (cK b).toArray 23)).cell? ⟨g + 1, 2, none⟩ = some (.string (S b.p)) := by rw [← hg.out]; simp
  generalize ((w.alloc (Obj.cells (cK a).toArray 23)).alloc (Obj.cells (cK b).toArray 23)) = W at *
  have n0 := World.new_ne W _ c0
  have n1 := World.new_ne W _ c1
  have n2 := World.new_ne W _ c2
  have m0 := World.new_ne W _ d0
  have m1 := World.new_ne W _ d1
  have m2 := World.new_ne W _ d2
  go_region_held3 (fun w' => w'.cell? ⟨g, 0, none⟩ = some (.string (S a.n)) ∧ w'.cell? ⟨g, 1, none⟩ = some (.string (S a.d)) ∧ w'.cell? ⟨g, 2, none⟩ = some (.string (S a.p)) ∧ w'.cell? ⟨g + 1, 0, none⟩ = some (.string (S b.n)) ∧ w'.cell? ⟨g + 1, 1, none⟩ = some (.string (S b.d)) ∧ w'.cell? ⟨g + 1, 2, none⟩ = some (.string (S b.p))) (go_keep) (first
    | (go_at_call 95; refine (compare_any _ _ _).mono ?_; rintro e w1 ⟨rfl, rfl⟩)
    | (go_at_call 94; refine (or_new _ _ _ _ _ _ (by simp)).mono ?_; rintro e w1 ⟨rfl, rfl⟩))
  go_wp2
  go_ret
  exact ⟨rfl, by rw [hg.out]; exact (hB.alloc (by omega) _).drew⟩
theorem less_any (a b : Ky) (w : World) : Calls Try.prog 61 #[vK a, vK b] w fun e w' => e = .returned (.bool (lessK a b)) ∧ Below w.heap.size w w' := by
  have e : decide (cmpK a b < 0) = lessK a b := orI_keys a b
  generalize hk : cmpK a b = k at e
  replace hk := Lib.hid hk
  replace e := Lib.hid e
  go_enter Try.func61, Try.ntmps61
  go_wp2_with fail
  have hB : Below w.heap.size w ((w.alloc (Obj.cells (cK a).toArray 23)).alloc (Obj.cells (cK b).toArray 23)) := bel_alloc (bel_alloc (Below.refl _ _) _) _
  refine (keys_any a b _).mono ?_
  rintro e w1 ⟨rfl, hb1⟩
  have hB1 := bel_call hB hb1
  rw [hk.out]
  go_wp2
  go_ret
  exact ⟨ret_bool e.out, hB1⟩
end Go.Proofs.Ytgfoaopfdpclhaa
