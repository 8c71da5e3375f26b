/-
  Rows of elements of several cells, out of what is known of each cell; no function of the program is named here.
-/
import Derived.Test.YtgfoaopfdpclhaaApp
import Derived.Deep.Slices
import Derived.ProofKit
namespace Go.Proofs.Ytgfoaopfdpclhaa
open Go.RowKit Go.Deep Go.WideShapes
set_option linter.unusedVariables false

/-- A slice that came in, and what it reads as. -/
structure SlArg (α : Type) where
  A : Option Addr
  n : Nat
  c : Nat
  l : List α

theorem flat_len {α : Type} {sz : Nat} (f : α → List Value) (hf : ∀ q, (f q).length = sz) (l : List α) : (l.flatMap f).length = l.length * sz := by
  induction l with
  | nil => simp
  | cons x r ih => rw [List.flatMap_cons, List.length_append, ih, hf, List.length_cons, Nat.add_mul]; omega
theorem flat_at {α : Type} {sz : Nat} (f : α → List Value) (hf : ∀ q, (f q).length = sz) (l : List α) {i j : Nat} (hi : i < l.length) (hj : j < sz) : (l.flatMap f)[i * sz + j]? = (f l[i])[j]? := by
  induction l generalizing i with
  | nil => simp at hi
  | cons x r ih =>
    rw [List.flatMap_cons]
    cases i with
    | zero => rw [Nat.zero_mul, Nat.zero_add, List.getElem?_append_left (by rw [hf]; exact hj)]; rfl
    | succ i =>
      rw [List.getElem?_append_right (by rw [hf, Nat.add_mul]; omega), hf, show (i + 1) * sz + j - sz = i * sz + j by rw [Nat.add_mul]; omega]
      exact ih (by simpa using hi)
theorem flat_snoc {α : Type} (f : α → List Value) (l : List α) (x : α) : (l ++ [x]).flatMap f = l.flatMap f ++ f x := by simp
theorem flat_take {α : Type} (f : α → List Value) (l : List α) (k : Nat) (h : k < l.length) : (l.take (k + 1)).flatMap f = (l.take k).flatMap f ++ f l[k] := by
  rw [List.take_succ_eq_append_getElem h, flat_snoc]
theorem list_of {α : Type} {p : Nat → α → Prop} (n : Nat) (h : ∀ i, i < n → ∃ q, p i q) : ∃ l : List α, l.length = n ∧ ∀ i (hi : i < l.length), p i l[i] := by
  induction n with
  | zero => exact ⟨[], rfl, fun i hi => absurd hi (by simp)⟩
  | succ n ih =>
    obtain ⟨l, hl, hp⟩ := ih (fun i hi => h i (by omega))
    obtain ⟨q, hq⟩ := h n (by omega)
    refine ⟨l ++ [q], by simp [hl], fun i hi => ?_⟩
    by_cases e : i < l.length
    · rw [List.getElem_append_left e]; exact hp i e
    · have hi2 : i = n := by simp at hi; omega
      subst hi2
      rw [List.getElem_append_right (by omega)]
      simpa using hq
theorem rd_of_cells {α : Type} {sz : Nat} (f : α → List Value) (hf : ∀ q, (f q).length = sz) (hsz : 0 < sz) {p : α → Prop} {w : World} {a : Addr} {len cap : Nat} (hlc : len ≤ cap) (hcm : cap ≤ maxLen)
    (h : ∀ i, i < len → ∃ q, p q ∧ ∀ j, j < sz → w.cell? (a.add (i * sz + j)) = (f q)[j]?) :
    ∃ l : List α, l.length = len ∧ (∀ q ∈ l, p q) ∧ Rd w sz (.slice (some a) len cap) len (l.flatMap f) := by
  obtain ⟨l, hl, hp⟩ := list_of len h
  refine ⟨l, hl, fun q hq => ?_, ?_, some a, cap, rfl, hlc, hcm, ?_⟩
  · obtain ⟨i, hi, rfl⟩ := List.getElem_of_mem hq
    exact (hp i hi).1
  · rw [flat_len f hf, hl]
  · by_cases h0 : len = 0
    · exact .inl h0
    · have hc0 := (hp 0 (by omega)).2 0 hsz
      have he : (f l[0])[0]? = some ((f l[0])[0]'(by rw [hf]; exact hsz)) := List.getElem?_eq_getElem _
      rw [he] at hc0
      obtain ⟨b, off, spot⟩ := a
      have hspot : spot = none := by simpa [Addr.add] using World.cell?_spot hc0
      subst hspot
      refine .inr ⟨b, off, rfl, ?_, fun j hj => ?_⟩
      · have := World.block_lt_of_cell? w _ hc0
        rw [add_none] at this
        exact this
      · rw [flat_len f hf] at hj
        have hq : j / sz < l.length := Nat.div_lt_of_lt_mul (by rw [Nat.mul_comm]; exact hj)
        have hr : j % sz < sz := Nat.mod_lt _ hsz
        have e : j / sz * sz + j % sz = j := by rw [Nat.mul_comm]; exact Nat.div_add_mod j sz
        have := (hp (j / sz) hq).2 (j % sz) hr
        rw [add_none, e] at this
        rw [this]
        have h2 := flat_at f hf l hq hr
        rw [e] at h2
        exact h2.symm
end Go.Proofs.Ytgfoaopfdpclhaa
