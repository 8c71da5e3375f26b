/-
  The program answers about attributes; when any fields end.
-/
import Derived.Test.YtagiolhciplniaaDoorAttr6
import Derived.Test.YtagiolhciplniaaDoorDate14
namespace Go.Proofs.YtagiolhciplniaaDoor
open Go.RowKit
set_option linter.unusedVariables false

def awL : List (List UInt8 × List UInt8) := [([77, 97, 120, 45, 65, 103, 101], [54, 48]), ([100, 111, 109, 97, 105, 110], [46, 83, 104, 111, 112, 46, 84, 101, 115, 116])]
def awF : Ff := ⟨false, true, true, false, 0, 60, [115, 104, 111, 112, 46, 116, 101, 115, 116], [], false, false⟩
theorem aw_read : readT awL = awF := by kernel_rfl
theorem aw_exp : expI awF 5 = (65, true) := by decide +kernel

set_option maxRecDepth 4000 in
set_option maxHeartbeats 4000000 in
theorem awake13_any (w : World) (hm : Mon w) :
    Calls Tryd.prog 25 #[] w fun e w' => e = .returned (.bool true) ∧ Below w.heap.size w w' := by
  have hr := Lib.hid aw_read
  have hx := Lib.hid aw_exp
  have hown := World.ownsRow_lit (base := w.heap.size) (e := 69) (size := 2) w #[.string (S [77, 97, 120, 45, 65, 103, 101]), .string (S [54, 48]), .string (S [100, 111, 109, 97, 105, 110]), .string (S [46, 83, 104, 111, 112, 46, 84, 101, 115, 116])] 2 (Nat.le_refl _) (by unfold maxLen; omega) rfl
  have hrd := Rd.of_own hown
  have hb0 := bel_alloc (Below.refl w.heap.size w) (.cells #[.string (S [77, 97, 120, 45, 65, 103, 101]), .string (S [54, 48]), .string (S [100, 111, 109, 97, 105, 110]), .string (S [46, 83, 104, 111, 112, 46, 84, 101, 115, 116])] 69)
  have hm0 := hm.next hb0
  clear hown
  go_enter Tryd.func25, Tryd.ntmps25
  go_wp2_with fail
  refine (attrRead_any _ 2 2 awL _ hrd (by decide) hm0).mono ?_
  rintro e w1 ⟨rfl, hb1⟩
  rw [hr.out]
  have hbel1 := bel_call hb0 hb1
  clear hrd hb0 hm0 hb1
  unfold ffC awF
  simp only
  go_wp2_with fail
  refine (expiry_any awF 5 _ (by decide) (by decide)).mono ?_
  rintro e w2 ⟨rfl, hb2⟩
  rw [hx.out]
  have hK2 : Blk w2 w1.heap.size 43 (ffC awF) := (Blk.new_ w1 43 (ffC awF)).below hb2
  have hbel2 := bel_call (bel_alloc hbel1 (.cells (ffC awF) 43)) hb2
  obtain ⟨c0, c1, c2, c3, c4, c5, c6, c7, c8, c9, cf⟩ := ff_cells hK2
  unfold awF at c1 c5 c6
  simp only at c1 c5 c6
  clear hb2 hbel1 hK2 c0 c2 c3 c4 c7 c8 c9 cf
  go_wp2
  go_ret
  exact ⟨rfl, hbel2⟩
end Go.Proofs.YtagiolhciplniaaDoor
