/-
  Arguments that are slices of changes.
-/
import Derived.Test.YtdefpphfbpkeaaaItemOpen
namespace Go.Proofs.Ytdefpphfbpkeaaa
open Go.RowKit Go.Deep Go.WideShapes
set_option linter.unusedVariables false
section
variable {H : Type} {enc : TypeId × Value → H} {w : World} {base : Nat} {spare : Nat → Bool} {held : Bool}

set_option maxRecDepth 100000 in
theorem change_cells {fuel : Nat} {cs : List Value} {x : DataW H × List MemPlace} (h : DataW.trod enc Try.prog w base spare held fuel 54 cs = some x) :
    ∃ q : Ch, cs = cC q ∧ okI q.o ∧ okI q.n := by
  obtain ⟨xs, n, _, _, hlen, hxl, hf⟩ := DataW.trod_struct Try.unnD h
  have hfl := Try.flsD
  have z0 : Try.prog.cellsOf 3 = 1 := by kernel_rfl
  have z1 : Try.prog.cellsOf 51 = 11 := by kernel_rfl
  have z2 : Try.prog.cellsOf 51 = 11 := by kernel_rfl
  have hsz0 : Try.prog.cellsOf 54 = 23 := by kernel_rfl
  rcases hl : (Try.prog.fieldsOf 54).toList with _ | ⟨f0, _ | ⟨f1, _ | ⟨f2, _ | ⟨f3, r⟩⟩⟩⟩
  · rw [hl] at hfl; simp at hfl
  · rw [hl] at hfl; simp at hfl
  · rw [hl] at hfl; simp at hfl
  · rw [hl] at hfl
    simp only [List.map_cons, List.map_nil, List.cons.injEq, Prod.mk.injEq] at hfl
    obtain ⟨⟨_, t0, o0⟩, ⟨_, t1, o1⟩, ⟨_, t2, o2⟩, _⟩ := hfl
    have e0 : (Try.prog.fieldsOf 54)[0]? = some f0 := by rw [← Array.getElem?_toList, hl]; rfl
    have e1 : (Try.prog.fieldsOf 54)[1]? = some f1 := by rw [← Array.getElem?_toList, hl]; rfl
    have e2 : (Try.prog.fieldsOf 54)[2]? = some f2 := by rw [← Array.getElem?_toList, hl]; rfl
    have hsz : (Try.prog.fieldsOf 54).size = 3 := by rw [← Array.length_toList, hl]; rfl
    have g0 := hf 0 f0 e0
    rw [t0, o0, z0] at g0
    have g1 := hf 1 f1 e1
    rw [t1, o1, z1] at g1
    have g2 := hf 2 f2 e2
    rw [t2, o2, z2] at g2
    rw [hsz0] at hlen
    rw [hsz] at hxl
    match xs, hxl with
    | [x0, x1, x2], _ =>
      obtain ⟨v, hv, _, _⟩ := DataW.trod_int Try.underlying3 g0
      obtain ⟨a, h1, s1⟩ := item_cells g1
      obtain ⟨b, h2, s2⟩ := item_cells g2
      refine ⟨⟨v, a, b⟩, ?_, s1, s2⟩
      have e0 : cs = cs.take 1 ++ ((cs.drop 1).take 11 ++ (cs.drop 12).take 11) := by
        have e2 : (cs.drop 12).take 11 = cs.drop 12 := List.take_of_length_le (by rw [List.length_drop]; omega)
        have e3 : (cs.drop 1).take 11 ++ cs.drop 12 = cs.drop 1 := by
          have := List.take_append_drop 11 (cs.drop 1)
          rw [List.drop_drop] at this
          exact this
        rw [e2, e3, List.take_append_drop]
      rw [List.drop_zero] at hv
      rw [e0, hv, h1, h2]
      rfl
  · rw [hl] at hfl; simp at hfl

def okC (x : Ch) : Prop := okI x.o ∧ okI x.n

set_option maxRecDepth 100000 in
theorem open_changes {base0 : Nat} {v : Value} {d : DataW H} {p : List MemPlace} (hval : Value.okWide Try.prog w .any base0 30 v) (h : DataW.Trod enc Try.prog w 0 (fun _ => true) true 30 v d p) :
    ∃ x : SlArg Ch, v = .slice x.A x.n x.c ∧ Rd w 23 (.slice x.A x.n x.c) x.n (x.l.flatMap cC) ∧ ∀ q ∈ x.l, okC q := by
  have hund : Try.prog.underlying 30 = some (.slice 54) := by kernel_rfl
  obtain ⟨a0, len0, cap0, rfl⟩ := okWide_slice hund hval
  obtain ⟨fuel, hf⟩ := h
  have h2 : Try.prog.cellsOf 54 = 23 := by kernel_rfl
  rcases open_slice hund hf with ⟨hcs, _⟩ | ⟨a, len, cap, m, n, D, Pl, hcs, hb, hl, hm, hmm, hx, hel⟩
  · simp [Value.cells] at hcs
    obtain ⟨rfl, rfl, rfl⟩ := hcs
    exact ⟨⟨none, 0, 0, []⟩, rfl, ⟨rfl, none, 0, rfl, Nat.le_refl _, by simp [maxLen], .inl rfl⟩, by simp⟩
  · simp [Value.cells] at hcs
    obtain ⟨rfl, rfl, rfl⟩ := hcs
    rw [h2] at hel
    have hlm : len0 ≤ m := by rw [hmm]; split <;> omega
    obtain ⟨l, hll, hp, hR⟩ := rd_of_cells (sz := 23) cC (fun q => rfl) (by decide) (p := okC) hl hm (fun i hi => by
      obtain ⟨cs', hc, ht⟩ := hel i (by omega)
      obtain ⟨q, rfl, hq⟩ := change_cells ht
      obtain ⟨_, _, hat⟩ := World.cells?_some hc
      refine ⟨q, hq, fun j hj => ?_⟩
      rw [← Go.Deep.add_add, hat j hj])
    exact ⟨⟨some a, len0, cap0, l⟩, rfl, hR, hp⟩
end
end Go.Proofs.Ytdefpphfbpkeaaa
