/-
  The laws CookieMakes, CookieSuffix: their walks, and how their arguments are opened.
-/
import Derived.Test.YtgfoaopfdpclhaaGreatDoorBu33
import Derived.Test.YtgfoaopfdpclhaaGreatDoorBu34
import Derived.Test.YtgfoaopfdpclhaaGreatDoorBu19
namespace Go.Proofs.YtgfoaopfdpclhaaGreatDoor
open Go.RowKit Go.Deep Go.WideShapes
set_option linter.unusedVariables false
set_option maxRecDepth 100000

structure Cm where
  r : Rq
  h : List UInt8
  n : Int
def camC (x : Cm) : Array Value := #[.string (S x.r.h), .string (S x.r.p), .bool x.r.s, .bool x.r.c, .string (S x.h), .int .i64 x.n]
theorem cam_rq {w : World} {g : Nat} {t : TypeId} {x : Cm} (h : Blk w g t (camC x)) : rqAt w g 0 = some x.r := rqAt_of (fun j v hv => by
  rw [Nat.zero_add, h.cell j]
  match j, hv with
  | 0, hv => exact hv
  | 1, hv => exact hv
  | 2, hv => exact hv
  | 3, hv => exact hv
  | j + 4, hv => simp [lRq] at hv)
theorem Tryz.unCm : Tryz.prog.underlying 26 = some (.struct (Tryz.prog.fieldsOf 26)) := by kernel_rfl
theorem Tryz.flCm : (Tryz.prog.fieldsOf 26).toList.map (fun f => (f.name, f.type, f.offset)) = [("R", 24, 0), ("Head", 9, 4), ("Now", 3, 5)] := by kernel_rfl
section
variable {H : Type} {enc : TypeId × Value → H} {w : World} {base : Nat} {spare : Nat → Bool} {held : Bool}
set_option maxRecDepth 100000 in
theorem came_cells {fuel : Nat} {cs : List Value} {x : DataW H × List MemPlace} (h : DataW.trod enc Tryz.prog w base spare held fuel 26 cs = some x) :
    ∃ q : Cm, cs = (camC q).toList ∧ (Lit.int .i64 q.n).wf = true := by
  obtain ⟨xs, n, _, _, hlen, hxl, hf⟩ := DataW.trod_struct Tryz.unCm h
  have hfl := Tryz.flCm
  have z0 : Tryz.prog.cellsOf 24 = 4 := by kernel_rfl
  have zS : Tryz.prog.cellsOf 9 = 1 := by kernel_rfl
  have zI : Tryz.prog.cellsOf 3 = 1 := by kernel_rfl
  have hsz0 : Tryz.prog.cellsOf 26 = 6 := by kernel_rfl
  rcases hl : (Tryz.prog.fieldsOf 26).toList with _ | ⟨f0, _ | ⟨f1, _ | ⟨f2, _ | ⟨f3, r⟩⟩⟩⟩
  · rw [hl] at hfl; simp at hfl
  · rw [hl] at hfl; simp at hfl
  · rw [hl] at hfl; simp at hfl
  · rw [hl] at hfl
    simp only [List.map_cons, List.map_nil, List.cons.injEq, Prod.mk.injEq] at hfl
    obtain ⟨⟨_, t0, o0⟩, ⟨_, t1, o1⟩, ⟨_, t2, o2⟩, _⟩ := hfl
    have e0 : (Tryz.prog.fieldsOf 26)[0]? = some f0 := by rw [← Array.getElem?_toList, hl]; rfl
    have e1 : (Tryz.prog.fieldsOf 26)[1]? = some f1 := by rw [← Array.getElem?_toList, hl]; rfl
    have e2 : (Tryz.prog.fieldsOf 26)[2]? = some f2 := by rw [← Array.getElem?_toList, hl]; rfl
    have hsz : (Tryz.prog.fieldsOf 26).size = 3 := by rw [← Array.length_toList, hl]; rfl
    have g0 := hf 0 f0 e0
    rw [t0, o0, z0] at g0
    have g1 := hf 1 f1 e1
    rw [t1, o1, zS] at g1
    have g2 := hf 2 f2 e2
    rw [t2, o2, zI] at g2
    rw [hsz0] at hlen
    rw [hsz] at hxl
    match cs, hlen, xs, hxl with
    | [c0, c1, c2, c3, c4, c5], _, [x0, x1, x2], _ =>
      obtain ⟨v0, v1, b2, b3, h1, s1, s2, _⟩ := req_cells g0
      obtain ⟨v4, ha4, _, _⟩ := DataW.trod_string Tryz.underlying9 g1
      obtain ⟨v5, ha5, _, hb5⟩ := DataW.trod_int Tryz.underlying3 g2
      simp at h1 ha4 ha5
      obtain ⟨rfl, rfl, rfl, rfl⟩ := h1
      subst ha4 ha5
      refine ⟨⟨⟨v0.toList, v1.toList, b2, b3⟩, v4.toList, v5⟩, ?_, hb5⟩
      unfold camC
      rw [S_of, S_of, S_of]
  · rw [hl] at hfl; simp at hfl
set_option maxRecDepth 100000 in
theorem open_came {base0 : Nat} {v : Value} {d : DataW H} {p : List MemPlace} (hval : Value.okWide Tryz.prog w .any base0 26 v) (h : DataW.Trod enc Tryz.prog w 0 (fun _ => true) true 26 v d p) :
    ∃ x : Cm, v = .agg (camC x) ∧ (Lit.int .i64 x.n).wf = true := by
  obtain ⟨cs, rfl, hcs⟩ := okWide_struct Tryz.unCm hval
  obtain ⟨fuel, hf⟩ := h
  obtain ⟨q, e, hq⟩ := came_cells hf
  have e2 : cs.toList = (camC q).toList := by simpa [Value.cells] using e
  have e3 : cs = camC q := by rw [← Array.toList_inj]; exact e2
  subst e3
  exact ⟨q, rfl, hq⟩
end
theorem i64_wfC {n : Int} (h : (Lit.int .i64 n).wf = true) : -9223372036854775808 ≤ n ∧ n ≤ 9223372036854775807 := by
  simp [Lit.wf, IntKind.min, IntKind.max, IntKind.signed, IntKind.bits] at h
  exact ⟨by omega, by omega⟩

set_option maxRecDepth 100000 in
set_option maxHeartbeats 8000000 in
theorem cookieMakes0 (A : Option Addr) (c : Nat) (rs : List (List UInt8)) (x : Cm) (w : World) (hR : Rd w 1 (.slice A rs.length c) rs.length (rs.map strV)) (hn1 : -9223372036854775808 ≤ x.n) (hn2 : x.n ≤ 9223372036854775807) (hm : Mon w) :
    Calls Tryz.prog 3 #[.slice A rs.length c, .agg (camC x)] w fun e w' => e = .returned (.bool true) ∧ Below w.heap.size w w' := by
  have hb0 := bel_alloc (Below.refl w.heap.size w) (.cells (camC x) 26)
  have hK0 := Blk.new_ w 26 (camC x)
  have hR0 := hR.below hb0
  have hm0 := hm.next hb0
  clear hR hm
  go_enter Tryz.func3, Tryz.ntmps3
  go_upto_region 1 with (fail)
  show Code.wp _ _ _ _ (w.alloc (.cells (camC x) 26))
  generalize w.alloc (.cells (camC x) 26) = w0 at *
  have q0 := cam_rq hK0
  have k4 : w0.cell? ⟨w.heap.size, 4, none⟩ = some (.string (S x.h)) := hK0.cell 4
  have k5 : w0.cell? ⟨w.heap.size, 5, none⟩ = some (.int .i64 x.n) := hK0.cell 5
  go_wp2_with fail
  refine (light14_any A c rs x.r x.h _ hR0).mono ?_
  rintro e w1 ⟨b, rfl, hb1, hbd⟩
  have hB1 := bel_call hb0 hb1
  have hK1 := hK0.below hb1
  have hR1 := hR0.below hb1
  have hm1 := hm0.next hb1
  clear hb0 hK0 hR0 hm0 q0 k4 k5 hb1
  cases b with
  | false =>
    clear hbd
    go_wp2_with (go_at_call 8; refine (awake14_any _ hm1).mono ?_; rintro e w99 ⟨rfl, hb99⟩)
    go_ret
    exact ⟨rfl, bel_call hB1 hb99⟩
  | true =>
    obtain ⟨l1, l2, l3, l4⟩ := hbd rfl
    have hrs : ∀ q ∈ rs, q.length ≤ 4294967296 := fun q hq => by have := l1 q hq; omega
    clear hbd l1
    have q1 := cam_rq hK1
    have k4 : w1.cell? ⟨w.heap.size, 4, none⟩ = some (.string (S x.h)) := hK1.cell 4
    have k5 : w1.cell? ⟨w.heap.size, 5, none⟩ = some (.int .i64 x.n) := hK1.cell 5
    go_wp2_with fail
    refine (make_any A _ c rs x.r x.h x.n _ hR1 hrs (by omega) (by omega) (by omega) hn1 hn2 hm1).mono ?_
    rintro e w2 ⟨rfl, hb2⟩
    unfold mkV
    obtain ⟨X, hX⟩ : ∃ X, X = mkIt rs x.r x.h x.n := ⟨_, rfl⟩
    obtain ⟨E, hE⟩ : ∃ E, E = mkE rs x.r x.h := ⟨_, rfl⟩
    rw [← hX, ← hE]
    replace hX := Lib.hid hX
    replace hE := Lib.hid hE
    have hba := bel_alloc (Below.refl _ w2) (.cells (cI X).toArray 34)
    have hB3 := bel_alloc (bel_call hB1 hb2) (.cells (cI X).toArray 34)
    have hK3 := (hK1.below hb2).below hba
    have hR3 := (hR1.below hb2).below hba
    have hm3 := (hm1.next hb2).next hba
    have hI3 := itAt_new w2 X 34 w2.heap.size rfl
    clear hB1 hK1 hR1 hm1 q1 k4 k5 hb2 hba
    go_upto_region 4 with (fail)
    show Code.wp _ _ _ _ (w2.alloc (.cells (cI X).toArray 34))
    generalize hg2 : w2.heap.size = g2 at *
    generalize w2.alloc (.cells (cI X).toArray 34) = w3 at *
    have q1 := cam_rq hK3
    have k4 : w3.cell? ⟨w.heap.size, 4, none⟩ = some (.string (S x.h)) := hK3.cell 4
    have k5 : w3.cell? ⟨w.heap.size, 5, none⟩ = some (.int .i64 x.n) := hK3.cell 5
    go_wp2_with fail
    refine (refMake_any A c rs x.r x.h x.n _ hR3 hrs (by omega) (by omega) (by omega) hn1 hn2).mono ?_
    rintro e w4 ⟨rfl, hb4⟩
    unfold mkV
    rw [← hX.out, ← hE.out]
    have hba := bel_alloc (Below.refl _ w4) (.cells (cI X).toArray 34)
    have hB5 := bel_alloc (bel_call hB3 hb4) (.cells (cI X).toArray 34)
    have hm5 := (hm3.next hb4).next hba
    have hI5 := itAt_later (itAt_later hI3 hb4) hba
    have hJ5 := itAt_new w4 X 34 w4.heap.size rfl
    clear hB3 hK3 hR3 hm3 q1 k4 k5 hb4 hba hX hE hI3
    go_upto_region 5 with (fail)
    show Code.wp _ _ _ _ (w4.alloc (.cells (cI X).toArray 34))
    generalize hg4 : w4.heap.size = g4 at *
    generalize w4.alloc (.cells (cI X).toArray 34) = w5 at *
    have hXX : decide (X = X) = true := decide_eq_true rfl
    go_wp2_with (go_at_call 8; refine (awake14_any _ hm5).mono ?_; rintro e w99 ⟨rfl, hb99⟩)
    go_ret
    exact ⟨rfl, bel_call hB5 hb99⟩
theorem cookieMakes (a : SlArg (List UInt8)) (x : Cm) (w : World) (ha : Rd w 1 (.slice a.A a.n a.c) a.n (a.l.map strV) ∧ ∀ q ∈ a.l, q.length ≤ maxLen) (hx : (Lit.int .i64 x.n).wf = true) (hm : Mon w) :
    Calls Tryz.prog 3 #[.slice a.A a.n a.c, .agg (camC x)] w fun e w' => e = .returned (.bool true) ∧ Below w.heap.size w w' := by
  obtain ⟨A, n, c, l⟩ := a
  obtain ⟨hR, _⟩ := ha
  simp only at hR ⊢
  have hn : l.length = n := by have := hR.1; simpa using this
  subst hn
  exact cookieMakes0 A c l x w hR (i64_wfC hx).1 (i64_wfC hx).2 hm
end Go.Proofs.YtgfoaopfdpclhaaGreatDoor
