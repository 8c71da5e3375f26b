/-
  Requests: their cells; a request that came in as an argument.
-/
import Derived.Test.YtdefpphfbpkeaaaRows2
import Derived.ProofKit
import Derived.OpenShut
namespace Go.Proofs.Ytdefpphfbpkeaaa
open Go.RowKit Go.Deep Go.WideShapes
set_option linter.unusedVariables false

/-- A request: its host, its path, is it secure, and a script's? -/
structure Rq where
  h : List UInt8
  p : List UInt8
  s : Bool
  c : Bool
deriving DecidableEq
def rqC (r : Rq) : Array Value := #[.string (S r.h), .string (S r.p), .bool r.s, .bool r.c]
abbrev rqV (r : Rq) : Value := .agg (rqC r)
def rq0 : Rq := ⟨[], [], false, false⟩
theorem Try.unRq : Try.prog.underlying 61 = some (.struct (Try.prog.fieldsOf 61)) := by kernel_rfl
theorem Try.flRq : (Try.prog.fieldsOf 61).toList.map (fun f => (f.name, f.type, f.offset)) = [("Host", 9, 0), ("Path", 9, 1), ("Secure", 4, 2), ("Script", 4, 3)] := by kernel_rfl
section
variable {H : Type} {enc : TypeId × Value → H} {w : World} {base : Nat} {spare : Nat → Bool} {held : Bool}
set_option maxRecDepth 100000 in
theorem req_cells {fuel : Nat} {cs : List Value} {x : DataW H × List MemPlace} (h : DataW.trod enc Try.prog w base spare held fuel 61 cs = some x) :
    ∃ (v0 v1 : ByteArray) (v2 v3 : Bool), cs = [.string v0, .string v1, .bool v2, .bool v3] ∧ v0.size ≤ maxLen ∧ v1.size ≤ maxLen ∧ ∀ n, n = v0.size ∨ n = v1.size → n ∈ x.1.weights Try.prog 61 := by
  obtain ⟨xs, n, _, hx, hlen, hxl, hf⟩ := DataW.trod_struct Try.unRq h
  have hfl := Try.flRq
  have zB : Try.prog.cellsOf 4 = 1 := by kernel_rfl
  have zS : Try.prog.cellsOf 9 = 1 := by kernel_rfl
  have hsz0 : Try.prog.cellsOf 61 = 4 := by kernel_rfl
  rcases hl : (Try.prog.fieldsOf 61).toList with _ | ⟨f0, _ | ⟨f1, _ | ⟨f2, _ | ⟨f3, _ | ⟨f4, r⟩⟩⟩⟩⟩
  · rw [hl] at hfl; simp at hfl
  · rw [hl] at hfl; simp at hfl
  · rw [hl] at hfl; simp at hfl
  · rw [hl] at hfl; simp at hfl
  · rw [hl] at hfl
    simp only [List.map_cons, List.map_nil, List.cons.injEq, Prod.mk.injEq] at hfl
    obtain ⟨⟨_, t0, o0⟩, ⟨_, t1, o1⟩, ⟨_, t2, o2⟩, ⟨_, t3, o3⟩, _⟩ := hfl
    have e0 : (Try.prog.fieldsOf 61)[0]? = some f0 := by rw [← Array.getElem?_toList, hl]; rfl
    have e1 : (Try.prog.fieldsOf 61)[1]? = some f1 := by rw [← Array.getElem?_toList, hl]; rfl
    have e2 : (Try.prog.fieldsOf 61)[2]? = some f2 := by rw [← Array.getElem?_toList, hl]; rfl
    have e3 : (Try.prog.fieldsOf 61)[3]? = some f3 := by rw [← Array.getElem?_toList, hl]; rfl
    have hsz : (Try.prog.fieldsOf 61).size = 4 := by rw [← Array.length_toList, hl]; rfl
    have g0 := hf 0 f0 e0
    rw [t0, o0, zS] at g0
    have g1 := hf 1 f1 e1
    rw [t1, o1, zS] at g1
    have g2 := hf 2 f2 e2
    rw [t2, o2, zB] at g2
    have g3 := hf 3 f3 e3
    rw [t3, o3, zB] at g3
    rw [hsz0] at hlen
    rw [hsz] at hxl
    match cs, hlen, xs, hxl with
    | [c0, c1, c2, c3], _, [x0, x1, x2, x3], _ =>
      obtain ⟨v0, ha0, hd0, hb0⟩ := DataW.trod_string Try.underlying9 g0
      obtain ⟨v1, ha1, hd1, hb1⟩ := DataW.trod_string Try.underlying9 g1
      obtain ⟨v2, ha2, _⟩ := DataW.trod_bool Try.underlying4 g2
      obtain ⟨v3, ha3, _⟩ := DataW.trod_bool Try.underlying4 g3
      simp at ha0 ha1 ha2 ha3
      refine ⟨v0, v1, v2, v3, by rw [ha0, ha1, ha2, ha3], hb0, hb1, ?_⟩
      intro n hn
      rw [hx]
      simp only [List.map_cons, List.map_nil, DataW.weights, Try.unRq, hl, DataW.weightsEach, List.mem_append, List.map_cons]
      rw [hd0, hd1]
      rw [Lib.size_eq v0, Lib.size_eq v1] at hn
      simp only [DataW.weights, List.mem_singleton]
      rcases hn with hn | hn
      · exact .inl hn
      · exact .inr (.inl hn)
  · rw [hl] at hfl; simp at hfl

set_option maxRecDepth 100000 in
theorem open_req {base0 : Nat} {v : Value} {d : DataW H} {p : List MemPlace} (hval : Value.okWide Try.prog w .any base0 61 v) (h : DataW.Trod enc Try.prog w 0 (fun _ => true) true 61 v d p) (hz : ∀ n ∈ d.weights Try.prog 61, n ≤ reachBytes) :
    ∃ x : Rq, v = .agg (rqC x) ∧ x.h.length ≤ 140737488351232 ∧ x.p.length ≤ 140737488351232 := by
  obtain ⟨cs, rfl, hcs⟩ := okWide_struct Try.unRq hval
  obtain ⟨fuel, hf⟩ := h
  obtain ⟨s0, s1, b2, b3, e, h0, h1, hw⟩ := req_cells hf
  have e2 : cs.toList = [.string s0, .string s1, .bool b2, .bool b3] := by simpa [Value.cells] using e
  have e3 : cs = #[.string s0, .string s1, .bool b2, .bool b3] := by rw [← Array.toList_inj]; exact e2
  subst e3
  have z0 := hz _ (hw _ (.inl rfl))
  have z1 := hz _ (hw _ (.inr rfl))
  rw [size_toList] at z0 z1
  exact ⟨⟨s0.toList, s1.toList, b2, b3⟩, by unfold rqC; rw [S_of, S_of], z0, z1⟩
set_option maxRecDepth 100000 in
theorem open_rq {base0 : Nat} {v : Value} {d : DataW H} {p : List MemPlace} (hval : Value.okWide Try.prog w .any base0 61 v) (h : DataW.Trod enc Try.prog w 0 (fun _ => true) true 61 v d p) :
    ∃ x : Rq, v = .agg (rqC x) ∧ x.h.length ≤ maxLen ∧ x.p.length ≤ maxLen := by
  obtain ⟨cs, rfl, hcs⟩ := okWide_struct Try.unRq hval
  obtain ⟨fuel, hf⟩ := h
  obtain ⟨s0, s1, b2, b3, e, h0, h1, hw⟩ := req_cells hf
  have e2 : cs.toList = [.string s0, .string s1, .bool b2, .bool b3] := by simpa [Value.cells] using e
  have e3 : cs = #[.string s0, .string s1, .bool b2, .bool b3] := by rw [← Array.toList_inj]; exact e2
  subst e3
  rw [size_toList] at h0 h1
  exact ⟨⟨s0.toList, s1.toList, b2, b3⟩, by unfold rqC; rw [S_of, S_of], h0, h1⟩
end
end Go.Proofs.Ytdefpphfbpkeaaa
