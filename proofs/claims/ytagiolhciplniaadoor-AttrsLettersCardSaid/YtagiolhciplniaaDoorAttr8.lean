/-
  When any fields end, from any time on.
-/
import Derived.Test.YtagiolhciplniaaDoorAttr7
import Derived.Test.YtagiolhciplniaaDoorRows2
import Derived.ProofKit
import Derived.OpenShut
namespace Go.Proofs.YtagiolhciplniaaDoor
open Go.RowKit Go.Deep Go.WideShapes
set_option linter.unusedVariables false

theorem Tryd.unnF : Tryd.prog.underlying 42 = some (.struct (Tryd.prog.fieldsOf 42)) := by kernel_rfl
theorem Tryd.flsF : (Tryd.prog.fieldsOf 42).toList.map (fun f => (f.name, f.type, f.offset)) = [("HasExpires", 4, 0), ("HasAge", 4, 1), ("HasDomain", 4, 2), ("HasPath", 4, 3), ("Expires", 3, 4), ("Age", 3, 5), ("Domain", 9, 6), ("Path", 9, 7), ("Secure", 4, 8), ("HttpOnly", 4, 9)] := by kernel_rfl
section
variable {H : Type} {enc : TypeId × Value → H} {w : World} {base : Nat} {spare : Nat → Bool} {held : Bool}

set_option maxRecDepth 100000 in
theorem fields_cells {fuel : Nat} {cs : List Value} {x : DataW H × List MemPlace} (h : DataW.trod enc Tryd.prog w base spare held fuel 42 cs = some x) :
    ∃ (v0 : Bool) (v1 : Bool) (v2 : Bool) (v3 : Bool) (v4 : Int) (v5 : Int) (v6 : ByteArray) (v7 : ByteArray) (v8 : Bool) (v9 : Bool), cs = [.bool v0, .bool v1, .bool v2, .bool v3, .int .i64 v4, .int .i64 v5, .string v6, .string v7, .bool v8, .bool v9] ∧ (Lit.int .i64 v4).wf = true ∧ (Lit.int .i64 v5).wf = true ∧ v6.size ≤ maxLen ∧ v7.size ≤ maxLen := by
  obtain ⟨xs, n, _, _, hlen, hxl, hf⟩ := DataW.trod_struct Tryd.unnF h
  have hfl := Tryd.flsF
  have zB : Tryd.prog.cellsOf 4 = 1 := by kernel_rfl
  have zI : Tryd.prog.cellsOf 3 = 1 := by kernel_rfl
  have zS : Tryd.prog.cellsOf 9 = 1 := by kernel_rfl
  have hsz0 : Tryd.prog.cellsOf 42 = 10 := by kernel_rfl
  rcases hl : (Tryd.prog.fieldsOf 42).toList with _ | ⟨f0, _ | ⟨f1, _ | ⟨f2, _ | ⟨f3, _ | ⟨f4, _ | ⟨f5, _ | ⟨f6, _ | ⟨f7, _ | ⟨f8, _ | ⟨f9, _ | ⟨f10, r⟩⟩⟩⟩⟩⟩⟩⟩⟩⟩⟩
  · rw [hl] at hfl; simp at hfl
  · rw [hl] at hfl; simp at hfl
  · rw [hl] at hfl; simp at hfl
  · rw [hl] at hfl; simp at hfl
  · rw [hl] at hfl; simp at hfl
  · rw [hl] at hfl; simp at hfl
  · rw [hl] at hfl; simp at hfl
  · rw [hl] at hfl; simp at hfl
  · rw [hl] at hfl; simp at hfl
  · rw [hl] at hfl; simp at hfl
  · rw [hl] at hfl
    simp only [List.map_cons, List.map_nil, List.cons.injEq, Prod.mk.injEq] at hfl
    obtain ⟨⟨_, t0, o0⟩, ⟨_, t1, o1⟩, ⟨_, t2, o2⟩, ⟨_, t3, o3⟩, ⟨_, t4, o4⟩, ⟨_, t5, o5⟩, ⟨_, t6, o6⟩, ⟨_, t7, o7⟩, ⟨_, t8, o8⟩, ⟨_, t9, o9⟩, _⟩ := hfl
    have e0 : (Tryd.prog.fieldsOf 42)[0]? = some f0 := by rw [← Array.getElem?_toList, hl]; rfl
    have e1 : (Tryd.prog.fieldsOf 42)[1]? = some f1 := by rw [← Array.getElem?_toList, hl]; rfl
    have e2 : (Tryd.prog.fieldsOf 42)[2]? = some f2 := by rw [← Array.getElem?_toList, hl]; rfl
    have e3 : (Tryd.prog.fieldsOf 42)[3]? = some f3 := by rw [← Array.getElem?_toList, hl]; rfl
    have e4 : (Tryd.prog.fieldsOf 42)[4]? = some f4 := by rw [← Array.getElem?_toList, hl]; rfl
    have e5 : (Tryd.prog.fieldsOf 42)[5]? = some f5 := by rw [← Array.getElem?_toList, hl]; rfl
    have e6 : (Tryd.prog.fieldsOf 42)[6]? = some f6 := by rw [← Array.getElem?_toList, hl]; rfl
    have e7 : (Tryd.prog.fieldsOf 42)[7]? = some f7 := by rw [← Array.getElem?_toList, hl]; rfl
    have e8 : (Tryd.prog.fieldsOf 42)[8]? = some f8 := by rw [← Array.getElem?_toList, hl]; rfl
    have e9 : (Tryd.prog.fieldsOf 42)[9]? = some f9 := by rw [← Array.getElem?_toList, hl]; rfl
    have hsz : (Tryd.prog.fieldsOf 42).size = 10 := by rw [← Array.length_toList, hl]; rfl
    have g0 := hf 0 f0 e0
    rw [t0, o0, zB] at g0
    have g1 := hf 1 f1 e1
    rw [t1, o1, zB] at g1
    have g2 := hf 2 f2 e2
    rw [t2, o2, zB] at g2
    have g3 := hf 3 f3 e3
    rw [t3, o3, zB] at g3
    have g4 := hf 4 f4 e4
    rw [t4, o4, zI] at g4
    have g5 := hf 5 f5 e5
    rw [t5, o5, zI] at g5
    have g6 := hf 6 f6 e6
    rw [t6, o6, zS] at g6
    have g7 := hf 7 f7 e7
    rw [t7, o7, zS] at g7
    have g8 := hf 8 f8 e8
    rw [t8, o8, zB] at g8
    have g9 := hf 9 f9 e9
    rw [t9, o9, zB] at g9
    rw [hsz0] at hlen
    rw [hsz] at hxl
    match cs, hlen, xs, hxl with
    | [c0, c1, c2, c3, c4, c5, c6, c7, c8, c9], _, [x0, x1, x2, x3, x4, x5, x6, x7, x8, x9], _ =>
      obtain ⟨v0, ha0, _⟩ := DataW.trod_bool Tryd.underlying4 g0
      obtain ⟨v1, ha1, _⟩ := DataW.trod_bool Tryd.underlying4 g1
      obtain ⟨v2, ha2, _⟩ := DataW.trod_bool Tryd.underlying4 g2
      obtain ⟨v3, ha3, _⟩ := DataW.trod_bool Tryd.underlying4 g3
      obtain ⟨v4, ha4, _, hb4⟩ := DataW.trod_int Tryd.underlying3 g4
      obtain ⟨v5, ha5, _, hb5⟩ := DataW.trod_int Tryd.underlying3 g5
      obtain ⟨v6, ha6, _, hb6⟩ := DataW.trod_string Tryd.underlying9 g6
      obtain ⟨v7, ha7, _, hb7⟩ := DataW.trod_string Tryd.underlying9 g7
      obtain ⟨v8, ha8, _⟩ := DataW.trod_bool Tryd.underlying4 g8
      obtain ⟨v9, ha9, _⟩ := DataW.trod_bool Tryd.underlying4 g9
      simp at ha0 ha1 ha2 ha3 ha4 ha5 ha6 ha7 ha8 ha9
      exact ⟨v0, v1, v2, v3, v4, v5, v6, v7, v8, v9, by rw [ha0, ha1, ha2, ha3, ha4, ha5, ha6, ha7, ha8, ha9], hb4, hb5, hb6, hb7⟩
  · rw [hl] at hfl; simp at hfl

theorem open_fields {base0 : Nat} {v : Value} {d : DataW H} {p : List MemPlace} (hval : Value.okWide Tryd.prog w .any base0 42 v) (h : DataW.Trod enc Tryd.prog w 0 (fun _ => true) true 42 v d p) :
    ∃ x : Ff, v = .agg (ffC x) ∧ x.dm.length ≤ maxLen ∧ x.pt.length ≤ maxLen := by
  obtain ⟨cs, rfl, hcs⟩ := okWide_struct Tryd.unnF hval
  obtain ⟨fuel, hf⟩ := h
  obtain ⟨b0, b1, b2, b3, i4, i5, s6, s7, b8, b9, e, w4, w5, h6, h7⟩ := fields_cells hf
  have e2 : cs.toList = [.bool b0, .bool b1, .bool b2, .bool b3, .int .i64 i4, .int .i64 i5, .string s6, .string s7, .bool b8, .bool b9] := by simpa [Value.cells] using e
  have e3 : cs = #[.bool b0, .bool b1, .bool b2, .bool b3, .int .i64 i4, .int .i64 i5, .string s6, .string s7, .bool b8, .bool b9] := by rw [← Array.toList_inj]; exact e2
  subst e3
  exact ⟨⟨b0, b1, b2, b3, i4, i5, s6.toList, s7.toList, b8, b9⟩, by unfold ffC; rw [S_of, S_of], by rw [← size_toList]; exact h6, by rw [← size_toList]; exact h7⟩
end

set_option maxRecDepth 4000 in
set_option maxHeartbeats 4000000 in
theorem lawExpire_any (f : Ff) (now : Int) (w : World) (hf : f.dm.length ≤ maxLen ∧ f.pt.length ≤ maxLen) (hwn : (Lit.int .i64 now).wf = true) (hm : Mon w) :
    Calls Tryd.prog 9 #[.agg (ffC f), .int .i64 now] w fun e w' => e = .returned (.bool true) ∧ Below w.heap.size w w' := by
  have hn : -9223372036854775808 ≤ now ∧ now ≤ 9223372036854775807 := by
    simp [Lit.wf, IntKind.min, IntKind.max, IntKind.signed, IntKind.bits] at hwn
    exact ⟨by omega, by omega⟩
  obtain ⟨N, I, hN⟩ : ∃ N I, expI f now = (N, I) := ⟨_, _, rfl⟩
  have hE := Lib.hid hN
  have hb0 := bel_alloc (Below.refl w.heap.size w) (.cells (ffC f) 42)
  have hK0 := Blk.new_ w 42 (ffC f)
  clear hN hf
  have hff := Lib.hid (show ffC f = #[.bool f.he, .bool f.ha, .bool f.hd, .bool f.hp, .int .i64 f.ex, .int .i64 f.ag, .string (S f.dm), .string (S f.pt), .bool f.sc, .bool f.ho] from rfl)
  rw [hff.out] at hb0 hK0 ⊢
  go_enter Tryd.func9, Tryd.ntmps9
  clear hK0
  have hK0 : Blk (w.alloc (.cells #[.bool f.he, .bool f.ha, .bool f.hd, .bool f.hp, .int .i64 f.ex, .int .i64 f.ag, .string (S f.dm), .string (S f.pt), .bool f.sc, .bool f.ho] 42)) w.heap.size 42 (ffC f) := Blk.new_ w 42 (ffC f)
  go_wp2_with fail
  refine (expiry_any f now _ hn.1 hn.2).mono ?_
  rintro e w1 ⟨rfl, hb1⟩
  rw [hE.out]
  have hK1 := hK0.below hb1
  obtain ⟨c0, c1, c2, c3, c4, c5, c6, c7, c8, c9, cf⟩ := ff_cells hK1
  have hbel1 := bel_call hb0 hb1
  clear hb0 hb1 hK0 hK1
  go_wp2_with fail
  refine (refExpiry_any f now _ hn.1 hn.2).mono ?_
  rintro e w2 ⟨rfl, hb2⟩
  rw [hE.out]
  have hbel2 := bel_call hbel1 hb2
  have hm2 := hm.next hbel2
  clear hbel1 hb2 c0 c1 c2 c3 c4 c5 c6 c7 c8 c9 cf
  go_wp2_with fail
  refine (awake13_any _ hm2).mono ?_
  rintro e w3 ⟨rfl, hb3⟩
  have hbel3 := bel_call hbel2 hb3
  go_wp2
  go_ret
  exact ⟨rfl, hbel3⟩
end Go.Proofs.YtagiolhciplniaaDoor
