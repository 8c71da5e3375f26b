/-
  Arguments that are slices of pairs: what their cells hold.
-/
import Derived.Test.YtonohkckflgcbaaHeader4
import Derived.Test.YtonohkckflgcbaaRows2
namespace Go.Proofs.Ytonohkckflgcbaa
open Go.RowKit Go.Deep Go.WideShapes
set_option linter.unusedVariables false

section
variable {H : Type} {enc : TypeId × Value → H} {w : World} {base : Nat} {spare : Nat → Bool} {held : Bool}
theorem pair_cells {fuel : Nat} {cs : List Value} {x : DataW H × List MemPlace} (h : DataW.trod enc Try.prog w base spare held fuel 29 cs = some x) :
    ∃ a b : ByteArray, cs = [.string a, .string b] ∧ a.size ≤ maxLen ∧ b.size ≤ maxLen := by
  obtain ⟨xs, n, _, _, hlen, hxl, hf⟩ := DataW.trod_struct Try.un29 h
  have hfl := Try.fl29
  have h1 : Try.prog.cellsOf 9 = 1 := by kernel_rfl
  have h2 : Try.prog.cellsOf 29 = 2 := by kernel_rfl
  rcases hl : (Try.prog.fieldsOf 29).toList with _ | ⟨f0, _ | ⟨f1, _ | ⟨f2, r⟩⟩⟩
  · rw [hl] at hfl; simp at hfl
  · rw [hl] at hfl; simp at hfl
  · rw [hl] at hfl
    simp only [List.map_cons, List.map_nil, List.cons.injEq, Prod.mk.injEq] at hfl
    obtain ⟨⟨_, t0, o0⟩, ⟨_, t1, o1⟩, _⟩ := hfl
    have e0 : (Try.prog.fieldsOf 29)[0]? = some f0 := by rw [← Array.getElem?_toList, hl]; rfl
    have e1 : (Try.prog.fieldsOf 29)[1]? = some f1 := by rw [← Array.getElem?_toList, hl]; rfl
    have hsz : (Try.prog.fieldsOf 29).size = 2 := by rw [← Array.length_toList, hl]; rfl
    have g0 := hf 0 f0 e0
    have g1 := hf 1 f1 e1
    rw [t0, o0, h1] at g0
    rw [t1, o1, h1] at g1
    rw [h2] at hlen
    rw [hsz] at hxl
    match cs, hlen, xs, hxl with
    | [c0, c1], _, [x0, x1], _ =>
      obtain ⟨a, ha, _, ha'⟩ := DataW.trod_string Try.underlying9 g0
      obtain ⟨b, hb, _, hb'⟩ := DataW.trod_string Try.underlying9 g1
      simp at ha hb
      exact ⟨a, b, by rw [ha, hb], ha', hb'⟩
  · rw [hl] at hfl; simp at hfl

theorem open_pairs {base0 : Nat} {v : Value} {d : DataW H} {p : List MemPlace} (hval : Value.okWide Try.prog w .any base0 30 v) (h : DataW.Trod enc Try.prog w 0 (fun _ => true) true 30 v d p) :
    ∃ x : SlArg (List UInt8 × List UInt8), v = .slice x.A x.n x.c ∧ Rd w 2 (.slice x.A x.n x.c) x.n (cellsP x.l) ∧ ∀ q ∈ x.l, q.1.length ≤ maxLen ∧ q.2.length ≤ maxLen := by
  obtain ⟨a0, len0, cap0, rfl⟩ := okWide_slice Try.underlying30 hval
  obtain ⟨fuel, hf⟩ := h
  have h2 : Try.prog.cellsOf 29 = 2 := by kernel_rfl
  rcases open_slice Try.underlying30 hf with ⟨hcs, _⟩ | ⟨a, len, cap, m, n, D, Pl, hcs, hb, hl, hm, hmm, hx, hel⟩
  · simp [Value.cells] at hcs
    obtain ⟨rfl, rfl, rfl⟩ := hcs
    exact ⟨⟨none, 0, 0, []⟩, rfl, ⟨rfl, none, 0, rfl, Nat.le_refl _, by simp [maxLen], .inl rfl⟩, by simp⟩
  · simp [Value.cells] at hcs
    obtain ⟨rfl, rfl, rfl⟩ := hcs
    rw [h2] at hel
    have hlm : len0 ≤ m := by rw [hmm]; split <;> omega
    obtain ⟨l, hll, hp, hR⟩ := rd_of_cells (sz := 2) (fun q : List UInt8 × List UInt8 => [strV q.1, strV q.2]) (fun q => rfl) (by decide) (p := fun q => q.1.length ≤ maxLen ∧ q.2.length ≤ maxLen) hl hm (fun i hi => by
      obtain ⟨cs', hc, ht⟩ := hel i (by omega)
      obtain ⟨x, y, rfl, hx1, hy1⟩ := pair_cells ht
      obtain ⟨_, _, hat⟩ := World.cells?_some hc
      refine ⟨(x.toList, y.toList), ⟨by rw [← size_toList]; exact hx1, by rw [← size_toList]; exact hy1⟩, fun j hj => ?_⟩
      rw [← Go.Deep.add_add, hat j hj]
      simp [strV, S_of])
    exact ⟨⟨some a, len0, cap0, l⟩, rfl, hR, hp⟩
end
end Go.Proofs.Ytonohkckflgcbaa
