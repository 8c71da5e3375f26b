/-
  Are items few and short? Plain words, and cells.
-/
import Derived.Test.YtdefpphfbpkeaaaChg
namespace Go.Proofs.Ytdefpphfbpkeaaa
open Go.RowKit
set_option linter.unusedVariables false

def lightX (x : It) : Bool := decide (x.k.n.length ≤ 300) && decide (x.k.d.length ≤ 300) && decide (x.k.p.length ≤ 300) && decide (x.c.v.length ≤ 300)
def lightL (m : Nat) (l : List It) : Bool := decide (l.length ≤ m) && l.all lightX
theorem it_cells {w : World} {b o : Nat} {x : It} (h : itAt w b o = some x) : w.cell? ⟨b, o, none⟩ = some (.string (S x.k.n)) ∧ w.cell? ⟨b, o + 1, none⟩ = some (.string (S x.k.d)) ∧ w.cell? ⟨b, o + 2, none⟩ = some (.string (S x.k.p)) ∧ w.cell? ⟨b, o + 3, none⟩ = some (.string (S x.c.v)) :=
  have hr : w.rangeAt b o (cI x) := rdAt_range (f := cI) h
  ⟨hr 0 _ rfl, hr 1 _ rfl, hr 2 _ rfl, hr 3 _ rfl⟩
theorem allx_step {p : It → Bool} {l : List It} {k : Nat} (h : k < l.length) : (l.take (k + 1)).all p = ((l.take k).all p && p l[k]) := by
  rw [List.take_succ_eq_append_getElem h, List.all_append]; simp
theorem allx_bad {p : It → Bool} {l : List It} {k : Nat} (h : k < l.length) (hp : p l[k] = false) : l.all p = false := by
  rw [List.all_eq_false]
  exact ⟨l[k], List.getElem_mem h, by simp [hp]⟩

end Go.Proofs.Ytdefpphfbpkeaaa
