/-
  Arguments that are items, or slices of items: what their cells hold.
-/
import Derived.Test.YtgfoaopfdpclhaaGreatDoorBu16
namespace Go.Proofs.YtgfoaopfdpclhaaGreatDoor
open Go.RowKit Go.Deep Go.WideShapes
set_option linter.unusedVariables false
set_option maxRecDepth 100000

/-- What is known of a text, a number, an item that came in. -/
def okK (k : Ky) : Prop := k.n.length ≤ maxLen ∧ k.d.length ≤ maxLen ∧ k.p.length ≤ maxLen
def okI (x : It) : Prop := okK x.k ∧ x.c.v.length ≤ maxLen ∧ (Lit.int .i64 x.c.ex).wf = true ∧ (Lit.int .i64 x.c.cr).wf = true ∧ (Lit.int .i64 x.c.ac).wf = true
section
variable {H : Type} {enc : TypeId × Value → H} {w : World} {base : Nat} {spare : Nat → Bool} {held : Bool}

set_option maxRecDepth 100000 in
theorem key_cells {fuel : Nat} {cs : List Value} {x : DataW H × List MemPlace} (h : DataW.trod enc Tryz.prog w base spare held fuel 30 cs = some x) :
    ∃ (v0 : ByteArray) (v1 : ByteArray) (v2 : ByteArray), cs = [.string v0, .string v1, .string v2] ∧ v0.size ≤ maxLen ∧ v1.size ≤ maxLen ∧ v2.size ≤ maxLen := by
  obtain ⟨xs, n, _, _, hlen, hxl, hf⟩ := DataW.trod_struct Tryz.unnK h
  have hfl := Tryz.flsK
  have zS : Tryz.prog.cellsOf 9 = 1 := by kernel_rfl
  have hsz0 : Tryz.prog.cellsOf 30 = 3 := by kernel_rfl
  rcases hl : (Tryz.prog.fieldsOf 30).toList with _ | ⟨f0, _ | ⟨f1, _ | ⟨f2, _ | ⟨f3, r⟩⟩⟩⟩
  · rw [hl] at hfl; simp at hfl
  · rw [hl] at hfl; simp at hfl
  · rw [hl] at hfl; simp at hfl
  · rw [hl] at hfl
    simp only [List.map_cons, List.map_nil, List.cons.injEq, Prod.mk.injEq] at hfl
    obtain ⟨⟨_, t0, o0⟩, ⟨_, t1, o1⟩, ⟨_, t2, o2⟩, _⟩ := hfl
    have e0 : (Tryz.prog.fieldsOf 30)[0]? = some f0 := by rw [← Array.getElem?_toList, hl]; rfl
    have e1 : (Tryz.prog.fieldsOf 30)[1]? = some f1 := by rw [← Array.getElem?_toList, hl]; rfl
    have e2 : (Tryz.prog.fieldsOf 30)[2]? = some f2 := by rw [← Array.getElem?_toList, hl]; rfl
    have hsz : (Tryz.prog.fieldsOf 30).size = 3 := by rw [← Array.length_toList, hl]; rfl
    have g0 := hf 0 f0 e0
    rw [t0, o0, zS] at g0
    have g1 := hf 1 f1 e1
    rw [t1, o1, zS] at g1
    have g2 := hf 2 f2 e2
    rw [t2, o2, zS] at g2
    rw [hsz0] at hlen
    rw [hsz] at hxl
    match cs, hlen, xs, hxl with
    | [c0, c1, c2], _, [x0, x1, x2], _ =>
      obtain ⟨v0, ha0, _, hb0⟩ := DataW.trod_string Tryz.underlying9 g0
      obtain ⟨v1, ha1, _, hb1⟩ := DataW.trod_string Tryz.underlying9 g1
      obtain ⟨v2, ha2, _, hb2⟩ := DataW.trod_string Tryz.underlying9 g2
      simp at ha0 ha1 ha2
      exact ⟨v0, v1, v2, by rw [ha0, ha1, ha2], hb0, hb1, hb2⟩
  · rw [hl] at hfl; simp at hfl

set_option maxRecDepth 100000 in
theorem cookie_cells {fuel : Nat} {cs : List Value} {x : DataW H × List MemPlace} (h : DataW.trod enc Tryz.prog w base spare held fuel 32 cs = some x) :
    ∃ (v0 : ByteArray) (v1 : Bool) (v2 : Bool) (v3 : Bool) (v4 : Bool) (v5 : Int) (v6 : Int) (v7 : Int), cs = [.string v0, .bool v1, .bool v2, .bool v3, .bool v4, .int .i64 v5, .int .i64 v6, .int .i64 v7] ∧ v0.size ≤ maxLen ∧ (Lit.int .i64 v5).wf = true ∧ (Lit.int .i64 v6).wf = true ∧ (Lit.int .i64 v7).wf = true := by
  obtain ⟨xs, n, _, _, hlen, hxl, hf⟩ := DataW.trod_struct Tryz.unnCk h
  have hfl := Tryz.flsCk
  have zB : Tryz.prog.cellsOf 4 = 1 := by kernel_rfl
  have zI : Tryz.prog.cellsOf 3 = 1 := by kernel_rfl
  have zS : Tryz.prog.cellsOf 9 = 1 := by kernel_rfl
  have hsz0 : Tryz.prog.cellsOf 32 = 8 := by kernel_rfl
  rcases hl : (Tryz.prog.fieldsOf 32).toList with _ | ⟨f0, _ | ⟨f1, _ | ⟨f2, _ | ⟨f3, _ | ⟨f4, _ | ⟨f5, _ | ⟨f6, _ | ⟨f7, _ | ⟨f8, r⟩⟩⟩⟩⟩⟩⟩⟩⟩
  · rw [hl] at hfl; simp at hfl
  · rw [hl] at hfl; simp at hfl
  · rw [hl] at hfl; simp at hfl
  · rw [hl] at hfl; simp at hfl
  · rw [hl] at hfl; simp at hfl
  · rw [hl] at hfl; simp at hfl
  · rw [hl] at hfl; simp at hfl
  · rw [hl] at hfl; simp at hfl
  · rw [hl] at hfl
    simp only [List.map_cons, List.map_nil, List.cons.injEq, Prod.mk.injEq] at hfl
    obtain ⟨⟨_, t0, o0⟩, ⟨_, t1, o1⟩, ⟨_, t2, o2⟩, ⟨_, t3, o3⟩, ⟨_, t4, o4⟩, ⟨_, t5, o5⟩, ⟨_, t6, o6⟩, ⟨_, t7, o7⟩, _⟩ := hfl
    have e0 : (Tryz.prog.fieldsOf 32)[0]? = some f0 := by rw [← Array.getElem?_toList, hl]; rfl
    have e1 : (Tryz.prog.fieldsOf 32)[1]? = some f1 := by rw [← Array.getElem?_toList, hl]; rfl
    have e2 : (Tryz.prog.fieldsOf 32)[2]? = some f2 := by rw [← Array.getElem?_toList, hl]; rfl
    have e3 : (Tryz.prog.fieldsOf 32)[3]? = some f3 := by rw [← Array.getElem?_toList, hl]; rfl
    have e4 : (Tryz.prog.fieldsOf 32)[4]? = some f4 := by rw [← Array.getElem?_toList, hl]; rfl
    have e5 : (Tryz.prog.fieldsOf 32)[5]? = some f5 := by rw [← Array.getElem?_toList, hl]; rfl
    have e6 : (Tryz.prog.fieldsOf 32)[6]? = some f6 := by rw [← Array.getElem?_toList, hl]; rfl
    have e7 : (Tryz.prog.fieldsOf 32)[7]? = some f7 := by rw [← Array.getElem?_toList, hl]; rfl
    have hsz : (Tryz.prog.fieldsOf 32).size = 8 := by rw [← Array.length_toList, hl]; rfl
    have g0 := hf 0 f0 e0
    rw [t0, o0, zS] at g0
    have g1 := hf 1 f1 e1
    rw [t1, o1, zB] at g1
    have g2 := hf 2 f2 e2
    rw [t2, o2, zB] at g2
    have g3 := hf 3 f3 e3
    rw [t3, o3, zB] at g3
    have g4 := hf 4 f4 e4
    rw [t4, o4, zB] at g4
    have g5 := hf 5 f5 e5
    rw [t5, o5, zI] at g5
    have g6 := hf 6 f6 e6
    rw [t6, o6, zI] at g6
    have g7 := hf 7 f7 e7
    rw [t7, o7, zI] at g7
    rw [hsz0] at hlen
    rw [hsz] at hxl
    match cs, hlen, xs, hxl with
    | [c0, c1, c2, c3, c4, c5, c6, c7], _, [x0, x1, x2, x3, x4, x5, x6, x7], _ =>
      obtain ⟨v0, ha0, _, hb0⟩ := DataW.trod_string Tryz.underlying9 g0
      obtain ⟨v1, ha1, _⟩ := DataW.trod_bool Tryz.underlying4 g1
      obtain ⟨v2, ha2, _⟩ := DataW.trod_bool Tryz.underlying4 g2
      obtain ⟨v3, ha3, _⟩ := DataW.trod_bool Tryz.underlying4 g3
      obtain ⟨v4, ha4, _⟩ := DataW.trod_bool Tryz.underlying4 g4
      obtain ⟨v5, ha5, _, hb5⟩ := DataW.trod_int Tryz.underlying3 g5
      obtain ⟨v6, ha6, _, hb6⟩ := DataW.trod_int Tryz.underlying3 g6
      obtain ⟨v7, ha7, _, hb7⟩ := DataW.trod_int Tryz.underlying3 g7
      simp at ha0 ha1 ha2 ha3 ha4 ha5 ha6 ha7
      exact ⟨v0, v1, v2, v3, v4, v5, v6, v7, by rw [ha0, ha1, ha2, ha3, ha4, ha5, ha6, ha7], hb0, hb5, hb6, hb7⟩
  · rw [hl] at hfl; simp at hfl

set_option maxRecDepth 100000 in
theorem item_cells {fuel : Nat} {cs : List Value} {x : DataW H × List MemPlace} (h : DataW.trod enc Tryz.prog w base spare held fuel 34 cs = some x) :
    ∃ q : It, cs = cI q ∧ okI q := by
  obtain ⟨xs, n, _, _, hlen, hxl, hf⟩ := DataW.trod_struct Tryz.unnI h
  have hfl := Tryz.flsI
  have z0 : Tryz.prog.cellsOf 30 = 3 := by kernel_rfl
  have z1 : Tryz.prog.cellsOf 32 = 8 := by kernel_rfl
  have hsz0 : Tryz.prog.cellsOf 34 = 11 := by kernel_rfl
  rcases hl : (Tryz.prog.fieldsOf 34).toList with _ | ⟨f0, _ | ⟨f1, _ | ⟨f2, r⟩⟩⟩
  · rw [hl] at hfl; simp at hfl
  · rw [hl] at hfl; simp at hfl
  · rw [hl] at hfl
    simp only [List.map_cons, List.map_nil, List.cons.injEq, Prod.mk.injEq] at hfl
    obtain ⟨⟨_, t0, o0⟩, ⟨_, t1, o1⟩, _⟩ := hfl
    have e0 : (Tryz.prog.fieldsOf 34)[0]? = some f0 := by rw [← Array.getElem?_toList, hl]; rfl
    have e1 : (Tryz.prog.fieldsOf 34)[1]? = some f1 := by rw [← Array.getElem?_toList, hl]; rfl
    have hsz : (Tryz.prog.fieldsOf 34).size = 2 := by rw [← Array.length_toList, hl]; rfl
    have g0 := hf 0 f0 e0
    rw [t0, o0, z0] at g0
    have g1 := hf 1 f1 e1
    rw [t1, o1, z1] at g1
    rw [hsz0] at hlen
    rw [hsz] at hxl
    match xs, hxl with
    | [x0, x1], _ =>
      obtain ⟨a, b, c, h1, s1, s2, s3⟩ := key_cells g0
      obtain ⟨v, b1, b2, b3, b4, i1, i2, i3, h2, s4, w1, w2, w3⟩ := cookie_cells g1
      refine ⟨⟨⟨a.toList, b.toList, c.toList⟩, ⟨v.toList, b1, b2, b3, b4, i1, i2, i3⟩⟩, ?_, ⟨by simpa [size_toList] using s1, by simpa [size_toList] using s2, by simpa [size_toList] using s3⟩, by simpa [size_toList] using s4, w1, w2, w3⟩
      have e : cs = cs.take 3 ++ (cs.drop 3).take 8 := by
        have e2 : (cs.drop 3).take 8 = cs.drop 3 := List.take_of_length_le (by rw [List.length_drop]; omega)
        rw [e2, List.take_append_drop]
      rw [List.drop_zero] at h1
      rw [e, h1, h2]
      simp [cI, cK, cCk, strV, S_of]
  · rw [hl] at hfl; simp at hfl

end
end Go.Proofs.YtgfoaopfdpclhaaGreatDoor
