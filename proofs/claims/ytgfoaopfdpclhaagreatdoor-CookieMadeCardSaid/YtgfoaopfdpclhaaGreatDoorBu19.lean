/-
  Joined texts: Suf7.
-/
import Derived.Test.YtgfoaopfdpclhaaGreatDoorBu14
import Derived.Test.YtgfoaopfdpclhaaGreatDoorBu15
import Derived.OpenShut
namespace Go.Proofs.YtgfoaopfdpclhaaGreatDoor
open Go.RowKit Go.Deep Go.WideShapes
set_option linter.unusedVariables false
set_option maxRecDepth 100000

section
variable {H : Type} {enc : TypeId × Value → H} {w : World} {base : Nat} {spare : Nat → Bool} {held : Bool}
theorem flat_one (l : List (List UInt8)) : (l.flatMap fun q => [strV q]) = l.map strV := by
  induction l with
  | nil => rfl
  | cons a r ih => rw [List.flatMap_cons, ih]; rfl
theorem open_texts {base0 : Nat} {v : Value} {d : DataW H} {p : List MemPlace} (hval : Value.okWide Tryz.prog w .any base0 22 v) (h : DataW.Trod enc Tryz.prog w 0 (fun _ => true) true 22 v d p) :
    ∃ x : SlArg (List UInt8), v = .slice x.A x.n x.c ∧ Rd w 1 (.slice x.A x.n x.c) x.n (x.l.map strV) ∧ ∀ q ∈ x.l, q.length ≤ maxLen := by
  obtain ⟨a0, len0, cap0, rfl⟩ := okWide_slice Tryz.underlying22 hval
  obtain ⟨fuel, hf⟩ := h
  have h2 : Tryz.prog.cellsOf 9 = 1 := by kernel_rfl
  rcases open_slice Tryz.underlying22 hf with ⟨hcs, _⟩ | ⟨a, len, cap, m, n, D, Pl, hcs, hb, hl, hm, hmm, hx, hel⟩
  · simp [Value.cells] at hcs
    obtain ⟨rfl, rfl, rfl⟩ := hcs
    exact ⟨⟨none, 0, 0, []⟩, rfl, ⟨rfl, none, 0, rfl, Nat.le_refl _, by simp [maxLen], .inl rfl⟩, by simp⟩
  · simp [Value.cells] at hcs
    obtain ⟨rfl, rfl, rfl⟩ := hcs
    rw [h2] at hel
    have hlm : len0 ≤ m := by rw [hmm]; split <;> omega
    obtain ⟨l, hll, hp, hR⟩ := rd_of_cells (sz := 1) (fun q : List UInt8 => [strV q]) (fun q => rfl) (by decide) (p := fun q => q.length ≤ maxLen) hl hm (fun i hi => by
      obtain ⟨cs', hc, ht⟩ := hel i (by omega)
      obtain ⟨x, rfl, _, hx1⟩ := DataW.trod_string Tryz.underlying9 ht
      obtain ⟨_, _, hat⟩ := World.cells?_some hc
      refine ⟨x.toList, by rw [← size_toList]; exact hx1, fun j hj => ?_⟩
      rw [← Go.Deep.add_add, hat j hj]
      simp [strV, S_of])
    rw [flat_one] at hR
    exact ⟨⟨some a, len0, cap0, l⟩, rfl, hR, hp⟩
end

theorem lightS_lens {rs : List (List UInt8)} (h : lightS rs = true) : ∀ r ∈ rs, r.length ≤ 300 := by
  unfold lightS at h
  simp only [Bool.and_eq_true, List.all_eq_true, decide_eq_true_eq] at h
  exact h.2
theorem rev_step (rs : List (List UInt8)) (k : Nat) (h : k < rs.length) : (rs.drop k).reverse = (rs.drop (k + 1)).reverse ++ [rs[k]] := by
  rw [List.drop_eq_getElem_cons h, List.reverse_cons]
theorem u8_wf' {n : Int} (h : (Lit.int .u8 n).wf = true) : ∃ c : UInt8, n = c.toNat := by
  simp [Lit.wf, IntKind.min, IntKind.max, IntKind.signed, IntKind.bits] at h
  exact ⟨UInt8.ofNat n.toNat, by simp; omega⟩

end Go.Proofs.YtgfoaopfdpclhaaGreatDoor
