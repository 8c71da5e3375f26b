/-
  Joined texts: Uri3.
-/
import Derived.Test.YtgfoaopfdpclhaaGreatDoorBu26
import Derived.Shelf.Vars
import Derived.HandedShaped
import Derived.Outline
namespace Go.Proofs.YtgfoaopfdpclhaaGreatDoor
open Go.RowKit
set_option linter.unusedVariables false
set_option maxRecDepth 100000

/-- The library's own variable holds some number. -/
def Mx (w : World) : Prop := ∃ m, w.cell? ⟨0, 0, none⟩ = some (.int .i64 m)
theorem Mx.next {w w' : World} (h : Mx w) (hb : Below w.heap.size w w') : Mx w' := by
  obtain ⟨m, hm⟩ := h
  exact ⟨m, (hb.cell (p := ⟨_, 0, none⟩) (World.block_lt_of_cell? w _ hm)).trans hm⟩
theorem mx_of_shape {W : World} (h : W.ShapedOpen Tryz.prog) : Mx W :=
  Go.Proofs.cell_of_shapedOpen_int (zero := #[.int .i64 0]) (t := 3) h (of_decide_eq_true (by kernel_rfl)) (by kernel_rfl) rfl (by kernel_rfl) (by kernel_rfl) Tryz.underlying3

/-- Where uri.Parse stands: the result's block, the block of none, and what was there before. -/
def UqSt (w W : World) : Prop := Blk W w.heap.size 24 (rqC rq0) ∧ Blk W (w.heap.size + 1) 24 (rqC rq0) ∧ Below w.heap.size w W
theorem UqSt.next {w W W' : World} (h : UqSt w W) (hb : Below W.heap.size W W') : UqSt w W' := ⟨h.1.below hb, h.2.1.below hb, bel_call h.2.2 hb⟩
theorem rq_cells {W : World} {g : Nat} {r : Rq} {t : TypeId} (h : Blk W g t (rqC r)) : W.cell? ⟨g, 0, none⟩ = some (.string (S r.h)) ∧ W.cell? ⟨g, 1, none⟩ = some (.string (S r.p)) ∧ W.cell? ⟨g, 2, none⟩ = some (.bool r.s) ∧ W.cell? ⟨g, 3, none⟩ = some (.bool r.c) ∧ (∀ i, W.frozen? ⟨g, i, none⟩ = false) :=
  ⟨h.cell 0, h.cell 1, h.cell 2, h.cell 3, h.free⟩


theorem cutw_yes (l : List UInt8) (w : World) (hl : l.length ≤ 4294967280) (hm : Mx w) (h : 0 ≤ wordI l) :
    Calls Tryz.prog 136 #[.string (S l), .string ⟨#[58, 47, 47]⟩] w fun e w' => e = .returned (.tuple #[.string (S (l.take (wordI l).toNat)), .string (S (restU l)), .bool true]) ∧ Below w.heap.size w w' := by
  obtain ⟨m, hm⟩ := hm
  refine (Tryz.strings_Cut (S l) (S [58, 47, 47]) m w (by rw [S_size]; omega) hm).mono ?_
  rintro e w' ⟨he, n, rfl⟩
  have hc : Lib.cut (S l).data.toList (S [58, 47, 47]).data.toList = (l.take (wordI l).toNat, restU l, true) := if_pos h
  rw [hc] at he
  exact ⟨he, below_drews (Below.refl _ _) _⟩
theorem cutw_no (l : List UInt8) (w : World) (hl : l.length ≤ 4294967280) (hm : Mx w) (h : ¬ 0 ≤ wordI l) :
    Calls Tryz.prog 136 #[.string (S l), .string ⟨#[58, 47, 47]⟩] w fun e w' => e = .returned (.tuple #[.string (S l), .string (S []), .bool false]) ∧ Below w.heap.size w w' := by
  obtain ⟨m, hm⟩ := hm
  refine (Tryz.strings_Cut (S l) (S [58, 47, 47]) m w (by rw [S_size]; omega) hm).mono ?_
  rintro e w' ⟨he, n, rfl⟩
  have hc : Lib.cut (S l).data.toList (S [58, 47, 47]).data.toList = (l, [], false) := if_neg h
  rw [hc] at he
  exact ⟨he, below_drews (Below.refl _ _) _⟩

def hostU (x : List UInt8) : List UInt8 := x.take (nameK x)
def tailU (x : List UInt8) : List UInt8 := x.drop (nameK x)
def cutU (x : List UInt8) : List UInt8 := x.take (findAny x [63, 35])
def leftU (x : List UInt8) : List UInt8 := x.drop (findAny x [63, 35])
theorem pathU_eq (r : List UInt8) : pathU r = if Lib.hasPrefix (cutU r) [47] then cutU r else 47 :: cutU r := rfl

end Go.Proofs.YtgfoaopfdpclhaaGreatDoor
