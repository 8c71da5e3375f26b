/-
  Regions that draw their order and hold calls that make memory: one walk in the text's order, in every world of a class. No function of the program is named here.
-/
import Derived.Test.YtgfoaopfdpclhaaSlices
import Derived.Deep.QuietTactic
import Derived.BigQuiet
namespace Go.Proofs.Ytgfoaopfdpclhaa
open Go.RowKit
set_option linter.unusedVariables false

/-- The worlds of a class. -/
def Cls (C : World → Prop) : Type := {x : World // C x}
def Cls.w {C : World → Prop} (s : Cls C) : World := s.1
theorem Cls.ok {C : World → Prop} (s : Cls C) : C s.w := s.2
def Cls.mk {C : World → Prop} {w : World} (h : C w) : Cls C := ⟨w, h⟩
section
variable {P : Program}
theorem wp_region_class {id : Nat} {R : Exit → Act → World → Prop} {a : Act} {w : World} {l : List Oper} (C : World → Prop) (hm : P.follows .mixedOrders = true) (hB : Region.lexB .any l.toArray = true) (hC : C w.drew)
    (h : Nonempty (Cls C) → wpQuiet P l.toArray (fun w' => ∃ s : Cls C, w' = s.w) (fun a' => ∀ w', (∃ s : Cls C, w' = s.w) → R .normal a' w') l a) : (Code.region id l.toArray true).wp P R a w :=
  wp_region_quiet (C := fun w' => ∃ s : Cls C, w' = s.w) hm hB (show ∃ s : Cls C, w.drew = s.w from ⟨Cls.mk hC, rfl⟩) (by have := h ⟨Cls.mk hC⟩; rw [show l.toArray.toList = l from List.toList_toArray ..]; exact this)
theorem cls_same {C : World → Prop} {f : FuncId} {args : Array Value} {v : Value} {s : Cls C} (h : Calls P f args s.w fun e w' => e = .returned v ∧ s.w = w') : Calls P f args s.w fun e w'' => e = .returned v ∧ ∃ s : Cls C, w'' = s.w :=
  h.mono fun _ _ ⟨he, hw⟩ => ⟨he, s, hw.symm⟩
theorem cls_next {C : World → Prop} {f : FuncId} {args : Array Value} {v : Value} {s : Cls C} (hn : ∀ w', Below s.w.heap.size s.w w' → C s.w → C w') (h : Calls P f args s.w fun e w' => e = .returned v ∧ Below s.w.heap.size s.w w') : Calls P f args s.w fun e w'' => e = .returned v ∧ ∃ s : Cls C, w'' = s.w :=
  h.mono fun _ w' ⟨he, hb⟩ => ⟨he, Cls.mk (hn w' hb s.ok), rfl⟩
end
end Go.Proofs.Ytgfoaopfdpclhaa
