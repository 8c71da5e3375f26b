/-
  Joined texts: Rq Fits RqA Ck1.
-/
import Derived.Test.YtgfoaopfdpclhaaGreatDoorBu15
import Derived.ProofKit
import Derived.OpenShut
import Derived.Test.YtgfoaopfdpclhaaGreatDoorBu12
import Derived.Test.YtgfoaopfdpclhaaGreatDoorBu17
import Derived.Deep.DeepCutAuto
import Derived.Test.YtgfoaopfdpclhaaGreatDoorBu10
import Derived.Test.YtgfoaopfdpclhaaGreatDoorBu14
namespace Go.Proofs.YtgfoaopfdpclhaaGreatDoor
open Go.RowKit Go.Deep Go.WideShapes
set_option linter.unusedVariables false
set_option maxRecDepth 100000

/-- A request: its host, its path, is it secure, and a script's? -/
structure Rq where
  h : List UInt8
  p : List UInt8
  s : Bool
  c : Bool
deriving DecidableEq
def rqC (r : Rq) : Array Value := #[.string (S r.h), .string (S r.p), .bool r.s, .bool r.c]
abbrev rqV (r : Rq) : Value := .agg (rqC r)
def rq0 : Rq := ⟨[], [], false, false⟩
theorem Tryz.unRq : Tryz.prog.underlying 24 = some (.struct (Tryz.prog.fieldsOf 24)) := by kernel_rfl
theorem Tryz.flRq : (Tryz.prog.fieldsOf 24).toList.map (fun f => (f.name, f.type, f.offset)) = [("Host", 9, 0), ("Path", 9, 1), ("Secure", 4, 2), ("Script", 4, 3)] := by kernel_rfl
section
variable {H : Type} {enc : TypeId × Value → H} {w : World} {base : Nat} {spare : Nat → Bool} {held : Bool}
set_option maxRecDepth 100000 in
theorem req_cells {fuel : Nat} {cs : List Value} {x : DataW H × List MemPlace} (h : DataW.trod enc Tryz.prog w base spare held fuel 24 cs = some x) :
    ∃ (v0 v1 : ByteArray) (v2 v3 : Bool), cs = [.string v0, .string v1, .bool v2, .bool v3] ∧ v0.size ≤ maxLen ∧ v1.size ≤ maxLen ∧ ∀ n, n = v0.size ∨ n = v1.size → n ∈ x.1.weights Tryz.prog 24 := by
  obtain ⟨xs, n, _, hx, hlen, hxl, hf⟩ := DataW.trod_struct Tryz.unRq h
  have hfl := Tryz.flRq
  have zB : Tryz.prog.cellsOf 4 = 1 := by kernel_rfl
  have zS : Tryz.prog.cellsOf 9 = 1 := by kernel_rfl
  have hsz0 : Tryz.prog.cellsOf 24 = 4 := by kernel_rfl
  rcases hl : (Tryz.prog.fieldsOf 24).toList with _ | ⟨f0, _ | ⟨f1, _ | ⟨f2, _ | ⟨f3, _ | ⟨f4, r⟩⟩⟩⟩⟩
  · rw [hl] at hfl; simp at hfl
  · rw [hl] at hfl; simp at hfl
  · rw [hl] at hfl; simp at hfl
  · rw [hl] at hfl; simp at hfl
  · rw [hl] at hfl
    simp only [List.map_cons, List.map_nil, List.cons.injEq, Prod.mk.injEq] at hfl
    obtain ⟨⟨_, t0, o0⟩, ⟨_, t1, o1⟩, ⟨_, t2, o2⟩, ⟨_, t3, o3⟩, _⟩ := hfl
    have e0 : (Tryz.prog.fieldsOf 24)[0]? = some f0 := by rw [← Array.getElem?_toList, hl]; rfl
    have e1 : (Tryz.prog.fieldsOf 24)[1]? = some f1 := by rw [← Array.getElem?_toList, hl]; rfl
    have e2 : (Tryz.prog.fieldsOf 24)[2]? = some f2 := by rw [← Array.getElem?_toList, hl]; rfl
    have e3 : (Tryz.prog.fieldsOf 24)[3]? = some f3 := by rw [← Array.getElem?_toList, hl]; rfl
    have hsz : (Tryz.prog.fieldsOf 24).size = 4 := by rw [← Array.length_toList, hl]; rfl
    have g0 := hf 0 f0 e0
    rw [t0, o0, zS] at g0
    have g1 := hf 1 f1 e1
    rw [t1, o1, zS] at g1
    have g2 := hf 2 f2 e2
    rw [t2, o2, zB] at g2
    have g3 := hf 3 f3 e3
    rw [t3, o3, zB] at g3
    rw [hsz0] at hlen
    rw [hsz] at hxl
    match cs, hlen, xs, hxl with
    | [c0, c1, c2, c3], _, [x0, x1, x2, x3], _ =>
      obtain ⟨v0, ha0, hd0, hb0⟩ := DataW.trod_string Tryz.underlying9 g0
      obtain ⟨v1, ha1, hd1, hb1⟩ := DataW.trod_string Tryz.underlying9 g1
      obtain ⟨v2, ha2, _⟩ := DataW.trod_bool Tryz.underlying4 g2
      obtain ⟨v3, ha3, _⟩ := DataW.trod_bool Tryz.underlying4 g3
      simp at ha0 ha1 ha2 ha3
      refine ⟨v0, v1, v2, v3, by rw [ha0, ha1, ha2, ha3], hb0, hb1, ?_⟩
      intro n hn
      rw [hx]
      simp only [List.map_cons, List.map_nil, DataW.weights, Tryz.unRq, hl, DataW.weightsEach, List.mem_append, List.map_cons]
      rw [hd0, hd1]
      rw [Lib.size_eq v0, Lib.size_eq v1] at hn
      simp only [DataW.weights, List.mem_singleton]
      rcases hn with hn | hn
      · exact .inl hn
      · exact .inr (.inl hn)
  · rw [hl] at hfl; simp at hfl

set_option maxRecDepth 100000 in
theorem open_req {base0 : Nat} {v : Value} {d : DataW H} {p : List MemPlace} (hval : Value.okWide Tryz.prog w .any base0 24 v) (h : DataW.Trod enc Tryz.prog w 0 (fun _ => true) true 24 v d p) (hz : ∀ n ∈ d.weights Tryz.prog 24, n ≤ reachBytes) :
    ∃ x : Rq, v = .agg (rqC x) ∧ x.h.length ≤ 140737488351232 ∧ x.p.length ≤ 140737488351232 := by
  obtain ⟨cs, rfl, hcs⟩ := okWide_struct Tryz.unRq hval
  obtain ⟨fuel, hf⟩ := h
  obtain ⟨s0, s1, b2, b3, e, h0, h1, hw⟩ := req_cells hf
  have e2 : cs.toList = [.string s0, .string s1, .bool b2, .bool b3] := by simpa [Value.cells] using e
  have e3 : cs = #[.string s0, .string s1, .bool b2, .bool b3] := by rw [← Array.toList_inj]; exact e2
  subst e3
  have z0 := hz _ (hw _ (.inl rfl))
  have z1 := hz _ (hw _ (.inr rfl))
  rw [size_toList] at z0 z1
  exact ⟨⟨s0.toList, s1.toList, b2, b3⟩, by unfold rqC; rw [S_of, S_of], z0, z1⟩
set_option maxRecDepth 100000 in
theorem open_rq {base0 : Nat} {v : Value} {d : DataW H} {p : List MemPlace} (hval : Value.okWide Tryz.prog w .any base0 24 v) (h : DataW.Trod enc Tryz.prog w 0 (fun _ => true) true 24 v d p) :
    ∃ x : Rq, v = .agg (rqC x) ∧ x.h.length ≤ maxLen ∧ x.p.length ≤ maxLen := by
  obtain ⟨cs, rfl, hcs⟩ := okWide_struct Tryz.unRq hval
  obtain ⟨fuel, hf⟩ := h
  obtain ⟨s0, s1, b2, b3, e, h0, h1, hw⟩ := req_cells hf
  have e2 : cs.toList = [.string s0, .string s1, .bool b2, .bool b3] := by simpa [Value.cells] using e
  have e3 : cs = #[.string s0, .string s1, .bool b2, .bool b3] := by rw [← Array.toList_inj]; exact e2
  subst e3
  rw [size_toList] at h0 h1
  exact ⟨⟨s0.toList, s1.toList, b2, b3⟩, by unfold rqC; rw [S_of, S_of], h0, h1⟩
end
end Go.Proofs.YtgfoaopfdpclhaaGreatDoor
namespace Go.Proofs.YtgfoaopfdpclhaaGreatDoor
open Go.RowKit
set_option linter.unusedVariables false
set_option maxRecDepth 100000

def overB (c : Ck) (now : Int) : Bool := c.pe && decide (c.ex ≤ now)
/-- Does an item go with a request at a time? -/
def fitsR (x : It) (r : Rq) (now : Int) : Bool := (r.h == x.k.d || (!x.c.ho && matchB r.h x.k.d)) && (!overB x.c now && (fitB r.p x.k.p && ((!x.c.se || r.s) && (!x.c.ht || !r.c))))
@[simp, go_sem] theorem cCk_0 (k : Ck) : (cCk k)[0]? = some (.string (S k.v)) := rfl
@[simp, go_sem] theorem cCk_1 (k : Ck) : (cCk k)[1]? = some (.bool k.ho) := rfl
@[simp, go_sem] theorem cCk_2 (k : Ck) : (cCk k)[2]? = some (.bool k.se) := rfl
@[simp, go_sem] theorem cCk_3 (k : Ck) : (cCk k)[3]? = some (.bool k.ht) := rfl
@[simp, go_sem] theorem cCk_4 (k : Ck) : (cCk k)[4]? = some (.bool k.pe) := rfl
@[simp, go_sem] theorem cCk_5 (k : Ck) : (cCk k)[5]? = some (.int .i64 k.ex) := rfl
@[simp, go_sem] theorem cCk_g0 (k : Ck) (h : 0 < (cCk k).length) : (cCk k)[0] = .string (S k.v) := rfl
@[simp, go_sem] theorem cCk_g1 (k : Ck) (h : 1 < (cCk k).length) : (cCk k)[1] = .bool k.ho := rfl
@[simp, go_sem] theorem cCk_g2 (k : Ck) (h : 2 < (cCk k).length) : (cCk k)[2] = .bool k.se := rfl
@[simp, go_sem] theorem cCk_g3 (k : Ck) (h : 3 < (cCk k).length) : (cCk k)[3] = .bool k.ht := rfl
@[simp, go_sem] theorem cCk_g4 (k : Ck) (h : 4 < (cCk k).length) : (cCk k)[4] = .bool k.pe := rfl
@[simp, go_sem] theorem cCk_g5 (k : Ck) (h : 5 < (cCk k).length) : (cCk k)[5] = .int .i64 k.ex := rfl
@[simp, go_sem] theorem cCk_g6 (k : Ck) (h : 6 < (cCk k).length) : (cCk k)[6] = .int .i64 k.cr := rfl
@[simp, go_sem] theorem cCk_g7 (k : Ck) (h : 7 < (cCk k).length) : (cCk k)[7] = .int .i64 k.ac := rfl
noncomputable def ckAt (w : World) (b o : Nat) : Option Ck := rdAt cCk w b o
theorem ckAt_of {w : World} {b o : Nat} {k : Ck} (h : w.rangeAt b o (cCk k)) : ckAt w b o = some k := rdAt_of (fun _ _ => cCk_inj) (fun _ _ => rfl) h
theorem ckAt_it {w : World} {b o : Nat} {x : It} (h : itAt w b o = some x) : ckAt w b (o + 3) = some x.c := ckAt_of (range_part (l := cK x.k) (m := cCk x.c) (r := []) (by rw [List.append_nil]; exact rdAt_range (f := cI) h))
@[go_sem] theorem ckAt_drew (w : World) (b o : Nat) : ckAt w.drew b o = ckAt w b o := rdAt_drew _ _ _ _
@[go_sem] theorem ckAt_alloc (w : World) (ob : Obj) (b o : Nat) (h : b < w.heap.size) : ckAt (w.alloc ob) b o = ckAt w b o := rdAt_alloc _ _ _ _ _ h
@[go_sem] theorem ckAt_newI (w : World) (k : It) (t g : Nat) (hg : w.heap.size = g) : ckAt (w.alloc (.cells (cI k).toArray t)) g 3 = some k.c := by
  have := ckAt_it (itAt_new w k t g hg)
  exact this
section
variable (w : World)
def loadCk (a : Addr) : Sem Value := loadVar 32 a
def stuckCk (a : Addr) : Sem Value := loadVar 32 a
@[go_sem ↓] theorem to_loadCk (a : Addr) : loadVar 32 a = loadCk a := rfl
@[go_sem] theorem run_loadCk (b o : Nat) : (loadCk ⟨b, o, none⟩).run Tryz.prog w = match ckAt w b o with
    | some k => .ok (vCk k) w
    | none => (stuckCk ⟨b, o, none⟩).run Tryz.prog w := by
  cases h : ckAt w b o with
  | none => rfl
  | some k =>
    have hu : ∃ d, Tryz.prog.underlying 32 = some d ∧ d.isRow = true := ⟨.struct (Tryz.prog.fieldsOf 32), by kernel_rfl, rfl⟩
    obtain ⟨d, hd, hr⟩ := hu
    exact run_loadVar_mid w b o 32 (cCk k) d (rdAt_range h) hd hr (by kernel_rfl)
end
theorem ck_cells {w : World} {b o : Nat} {c : Ck} (h : ckAt w b o = some c) : w.cell? ⟨b, o + 1, none⟩ = some (.bool c.ho) ∧ w.cell? ⟨b, o + 2, none⟩ = some (.bool c.se) ∧ w.cell? ⟨b, o + 3, none⟩ = some (.bool c.ht) ∧ w.cell? ⟨b, o + 4, none⟩ = some (.bool c.pe) ∧ w.cell? ⟨b, o + 5, none⟩ = some (.int .i64 c.ex) :=
  have hr : w.rangeAt b o (cCk c) := rdAt_range (f := cCk) h
  ⟨hr 1 _ rfl, hr 2 _ rfl, hr 3 _ rfl, hr 4 _ rfl, hr 5 _ rfl⟩
theorem over_any (c : Ck) (now : Int) (w : World) : Calls Tryz.prog 40 #[vCk c, .int .i64 now] w fun e w' => e = .returned (.bool (overB c now)) ∧ Below w.heap.size w w' := by
  have hB := bel_alloc (Below.refl w.heap.size w) (.cells (cCk c).toArray 32)
  have hC : ckAt (w.alloc (.cells (cCk c).toArray 32)) w.heap.size 0 = some c := ckAt_of (range_blk (heap_alloc_new w _))
  obtain ⟨_, _, _, q4, q5⟩ := ck_cells hC
  rw [Nat.zero_add] at q4 q5
  clear hC
  cases hp : c.pe with
  | false =>
    have hf := Lib.hid (show overB c now = false by unfold overB; rw [hp]; rfl)
    rw [hp] at q4
    clear hp
    go_enter Tryz.func40, Tryz.ntmps40
    go_wp2
    go_ret
    exact ⟨ret_bool hf.out.symm, hB⟩
  | true =>
    have hf := Lib.hid (show overB c now = decide (c.ex ≤ now) by unfold overB; rw [hp]; rfl)
    rw [hp] at q4
    clear hp
    go_enter Tryz.func40, Tryz.ntmps40
    go_wp2
    go_ret
    exact ⟨ret_bool hf.out.symm, hB⟩

def setCk (a : Addr) (x : Value) : Sem Unit := storeVar 32 a x
@[go_sem ↓] theorem to_setCk (a : Addr) (x : Value) : storeVar 32 a x = setCk a x := rfl
theorem run_setCk' (w : World) (b o : Nat) (l : List Value) (hl : l.length = 8) (h1 : oneB l = true) (h : w.there b o 8) : (setCk ⟨b, o, none⟩ (.agg l.toArray)).run Tryz.prog w = .ok () (w.setCells b o l) := by
  have hs : l.toArray.size = 8 := by simpa using hl
  have := run_storeVar_mid (P := Tryz.prog) w b o 32 l.toArray (by rw [hs]; exact h) (by rw [hs]; kernel_rfl) (all_oneCell_toArray (oneB_all h1))
  rw [List.toList_toArray] at this
  exact this
@[go_sem] theorem run_setCk (w : World) (b o : Nat) (x : Ck) (h : w.there b o 8) : (setCk ⟨b, o, none⟩ (vCk x)).run Tryz.prog w = .ok () (w.setCells b o (cCk x)) := run_setCk' w b o (cCk x) rfl rfl h

/-- What the walk of 'Fits' reads. -/
def FitS (w : World) (g : Nat) (x : It) (r : Rq) : Prop := (itAt w g 0 = some x ∧ Blk w (g + 1) 24 (rqC r)) ∧ ckAt w (g + 2) 0 = some x.c
theorem fitS_later {w w1 : World} {g : Nat} {x : It} {r : Rq} (h : FitS w g x r) (hb : Below w.heap.size w w1) : FitS w1 g x r :=
  ⟨⟨itAt_later h.1.1 hb, h.1.2.below hb⟩, rdAt_kept hb (World.block_lt_of_cell? w _ (ck_cells h.2).1) h.2⟩
theorem fitS_cells {w : World} {g : Nat} {x : It} {r : Rq} (h : FitS w g x r) :
    w.cell? ⟨g, 1, none⟩ = some (.string (S x.k.d)) ∧ w.cell? ⟨g, 2, none⟩ = some (.string (S x.k.p)) ∧ w.cell? ⟨g + 1, 0, none⟩ = some (.string (S r.h)) ∧ w.cell? ⟨g + 1, 1, none⟩ = some (.string (S r.p)) ∧ w.cell? ⟨g + 1, 2, none⟩ = some (.bool r.s) ∧ w.cell? ⟨g + 1, 3, none⟩ = some (.bool r.c) ∧ w.cell? ⟨g + 2, 1, none⟩ = some (.bool x.c.ho) ∧ w.cell? ⟨g + 2, 2, none⟩ = some (.bool x.c.se) ∧ w.cell? ⟨g + 2, 3, none⟩ = some (.bool x.c.ht) ∧ ckAt w (g + 2) 0 = some x.c := by
  obtain ⟨⟨h1, h2⟩, h3⟩ := h
  have hr : w.rangeAt g 0 (cI x) := rdAt_range (f := cI) h1
  obtain ⟨c1, c2, c3, _, _⟩ := ck_cells h3
  rw [Nat.zero_add] at c1 c2 c3
  have r1 := hr 1 _ (cI_1 x)
  have r2 := hr 2 _ (cI_2 x)
  rw [Nat.zero_add] at r1 r2
  exact ⟨r1, r2, h2.cell 0, h2.cell 1, h2.cell 2, h2.cell 3, c1, c2, c3, h3⟩
def nearB (x : It) (r : Rq) : Bool := r.h == x.k.d || (!x.c.ho && matchB r.h x.k.d)
set_option maxHeartbeats 2000000 in
theorem fits_any' (x : It) (r : Rq) (now : Int) (w : World) (h1 : r.h.length ≤ 4294967296) (h2 : x.k.d.length ≤ 4294967296) (h3 : r.p.length ≤ 4294967296) (h4 : x.k.p.length ≤ 4294967296) :
    Calls Tryz.prog 16 #[vI x, rqV r, .int .i64 now] w fun e w' => e = .returned (.bool (fitsR x r now)) ∧ Below w.heap.size w w' := by
  go_enter Tryz.func16, Tryz.ntmps16
  have hF0 : FitS (((w.alloc (.cells (cI x).toArray 34)).alloc (.cells (rqC r) 24)).alloc (.cells (cCk x.c).toArray 32)) w.heap.size x r :=
    ⟨⟨itAt_later (itAt_new w x 34 w.heap.size rfl) (bel_alloc (bel_alloc (Below.refl _ _) _) _), by
      have := Blk.new_ (w.alloc (.cells (cI x).toArray 34)) 24 (rqC r)
      simpa using this.alloc (.cells (cCk x.c).toArray 32)⟩, by
      have h : ckAt (((w.alloc (.cells (cI x).toArray 34)).alloc (.cells (rqC r) 24)).alloc (.cells (cCk x.c).toArray 32)) ((w.alloc (.cells (cI x).toArray 34)).alloc (.cells (rqC r) 24)).heap.size 0 = some x.c := ckAt_of (range_blk (heap_alloc_new _ _))
      simpa using h⟩
  have hB0 : Below w.heap.size w (((w.alloc (.cells (cI x).toArray 34)).alloc (.cells (rqC r) 24)).alloc (.cells (cCk x.c).toArray 32)) := bel_alloc (bel_alloc (bel_alloc (Below.refl _ _) _) _) _
  go_upto_region 2 with (fail)
  show Code.wp _ _ _ _ (((w.alloc (.cells (cI x).toArray 34)).alloc (.cells (rqC r) 24)).alloc (.cells (cCk x.c).toArray 32))
  generalize (((w.alloc (.cells (cI x).toArray 34)).alloc (.cells (rqC r) 24)).alloc (.cells (cCk x.c).toArray 32)) = W at *
  go_cut [8] (fun v wx => v = .bool (nearB x r) ∧ FitS wx w.heap.size x r ∧ Below w.heap.size w wx)
  case first =>
    obtain ⟨q1, q2, q3, q4, q5, q6, q7, q8, q9, q10⟩ := fitS_cells hF0
    cases e1 : (r.h == x.k.d) with
    | true =>
      have hn := Lib.hid (show nearB x r = true by unfold nearB; rw [e1]; rfl)
      go_wp2
      go_meet
      exact ⟨by rw [hn.out], hF0, hB0⟩
    | false =>
      cases e2 : x.c.ho with
      | true =>
        have hn := Lib.hid (show nearB x r = false by unfold nearB; rw [e1, e2]; rfl)
        rw [e2] at q7
        clear e2
        go_wp2
        go_meet
        exact ⟨by rw [hn.out], hF0, hB0⟩
      | false =>
        have hn := Lib.hid (show nearB x r = matchB r.h x.k.d by unfold nearB; rw [e1, e2]; rfl)
        rw [e2] at q7
        clear e2
        go_wp2_with fail
        refine (hmatch_any (S r.h) (S x.k.d) _ (by simpa using h1) (by simpa using h2)).mono ?_
        rintro e w1 ⟨rfl, hb1⟩
        have hF1 := fitS_later hF0 hb1
        have hB1 := bel_call hB0 hb1
        clear q1 q2 q3 q4 q5 q6 q7 q8 q9 q10 hF0 hB0 hb1
        rw [S_toList, S_toList]
        go_wp2
        go_meet
        exact ⟨by rw [hn.out], hF1, hB1⟩
  case rest =>
    obtain ⟨rfl, hF, hB⟩ := hcut
    clear hF0 hB0
    have hf := Lib.hid (show fitsR x r now = (nearB x r && (!overB x.c now && (fitB r.p x.k.p && ((!x.c.se || r.s) && (!x.c.ht || !r.c))))) from rfl)
    cases hn : nearB x r with
    | false =>
      have hf2 := Lib.hid (show fitsR x r now = false by rw [hf.out, hn]; rfl)
      go_wp2
      go_ret
      exact ⟨ret_bool hf2.out.symm, hB⟩
    | true =>
      have hf2 := Lib.hid (show fitsR x r now = (!overB x.c now && (fitB r.p x.k.p && ((!x.c.se || r.s) && (!x.c.ht || !r.c)))) by rw [hf.out, hn]; rfl)
      clear hf hn
      obtain ⟨q1, q2, q3, q4, q5, q6, q7, q8, q9, q10⟩ := fitS_cells hF
      go_wp2_with fail
      refine (over_any x.c now _).mono ?_
      rintro e w1 ⟨rfl, hb1⟩
      have hF1 := fitS_later hF hb1
      have hB1 := bel_call hB hb1
      clear q1 q2 q3 q4 q5 q6 q7 q8 q9 q10 hF hB hb1
      cases ho : overB x.c now with
      | true =>
        have hf3 := Lib.hid (show fitsR x r now = false by rw [hf2.out, ho]; rfl)
        clear ho
        go_wp2
        go_ret
        exact ⟨ret_bool hf3.out.symm, hB1⟩
      | false =>
        have hf3 := Lib.hid (show fitsR x r now = (fitB r.p x.k.p && ((!x.c.se || r.s) && (!x.c.ht || !r.c))) by rw [hf2.out, ho]; rfl)
        clear ho hf2
        obtain ⟨q1, q2, q3, q4, q5, q6, q7, q8, q9, q10⟩ := fitS_cells hF1
        go_wp2_with fail
        refine (match_any (S r.p) (S x.k.p) _ (by unfold maxLen; simp; omega) (by unfold maxLen; simp; omega)).mono ?_
        rintro e w2 ⟨rfl, rfl⟩
        rw [S_toList, S_toList]
        cases hp : fitB r.p x.k.p with
        | false =>
          have hf4 := Lib.hid (show fitsR x r now = false by rw [hf3.out, hp]; rfl)
          clear hp
          go_wp2
          go_ret
          exact ⟨ret_bool hf4.out.symm, hB1⟩
        | true =>
          have hf4 := Lib.hid (show fitsR x r now = ((!x.c.se || r.s) && (!x.c.ht || !r.c)) by rw [hf3.out, hp]; rfl)
          clear hp hf3
          cases e1 : x.c.se <;> cases e2 : r.s <;> cases e3 : x.c.ht <;> cases e4 : r.c
          all_goals
            have hf5 := hf4.out
            rw [e1, e2, e3, e4] at hf5
            replace hf5 := Lib.hid hf5
            rw [e1] at q8
            rw [e2] at q5
            rw [e3] at q9
            rw [e4] at q6
            clear e1 e2 e3 e4 q10
            go_wp2
            go_ret
            exact ⟨ret_bool hf5.out.symm, hB1⟩
end Go.Proofs.YtgfoaopfdpclhaaGreatDoor
namespace Go.Proofs.YtgfoaopfdpclhaaGreatDoor
open Go.RowKit
set_option linter.unusedVariables false
set_option maxRecDepth 100000

def lRq (r : Rq) : List Value := [.string (S r.h), .string (S r.p), .bool r.s, .bool r.c]
theorem lRq_inj {a b : Rq} (h : lRq a = lRq b) : a = b := by
  obtain ⟨a1, a2, a3, a4⟩ := a
  obtain ⟨b1, b2, b3, b4⟩ := b
  simp only [lRq, List.cons.injEq, and_true, Value.bool.injEq] at h
  obtain ⟨h1, h2, h3, h4⟩ := h
  have e1 : a1 = b1 := strV_inj h1
  have e2 : a2 = b2 := strV_inj h2
  rw [e1, e2, h3, h4]
noncomputable def rqAt (w : World) (b o : Nat) : Option Rq := rdAt lRq w b o
theorem rqAt_of {w : World} {b o : Nat} {k : Rq} (h : w.rangeAt b o (lRq k)) : rqAt w b o = some k := rdAt_of (fun _ _ => lRq_inj) (fun _ _ => rfl) h
theorem rqAt_blk {w : World} {b : Nat} {r : Rq} (h : Blk w b 24 (rqC r)) : rqAt w b 0 = some r := rqAt_of (range_blk (l := lRq r) h)
@[go_sem] theorem rqAt_drew (w : World) (b o : Nat) : rqAt w.drew b o = rqAt w b o := rdAt_drew _ _ _ _
@[go_sem] theorem rqAt_alloc (w : World) (ob : Obj) (b o : Nat) (h : b < w.heap.size) : rqAt (w.alloc ob) b o = rqAt w b o := rdAt_alloc _ _ _ _ _ h
@[go_sem] theorem rqAt_new (w : World) (r : Rq) (t g : Nat) (hg : w.heap.size = g) : rqAt (w.alloc (.cells (rqC r) t)) g 0 = some r := by
  subst hg; exact rqAt_of (range_blk (l := lRq r) (heap_alloc_new w _))
theorem rq_lt {w : World} {b o : Nat} {x : Rq} (h : rqAt w b o = some x) : b < w.heap.size := World.block_lt_of_cell? w _ ((rdAt_range (f := lRq) h) 0 _ rfl)
theorem rqAt_later {w w1 : World} {b o : Nat} {k : Rq} (h : rqAt w b o = some k) (hb : Below w.heap.size w w1) : rqAt w1 b o = some k := rdAt_kept hb (rq_lt h) h
section
variable (w : World)
def loadRq (a : Addr) : Sem Value := loadVar 24 a
def stuckRq (a : Addr) : Sem Value := loadVar 24 a
@[go_sem ↓] theorem to_loadRq (a : Addr) : loadVar 24 a = loadRq a := rfl
@[go_sem] theorem run_loadRq (b o : Nat) : (loadRq ⟨b, o, none⟩).run Tryz.prog w = match rqAt w b o with
    | some k => .ok (rqV k) w
    | none => (stuckRq ⟨b, o, none⟩).run Tryz.prog w := by
  cases h : rqAt w b o with
  | none => rfl
  | some k =>
    have hu : ∃ d, Tryz.prog.underlying 24 = some d ∧ d.isRow = true := ⟨.struct (Tryz.prog.fieldsOf 24), by kernel_rfl, rfl⟩
    obtain ⟨d, hd, hr⟩ := hu
    exact run_loadVar_mid w b o 24 (lRq k) d (rdAt_range h) hd hr (by kernel_rfl)
end
end Go.Proofs.YtgfoaopfdpclhaaGreatDoor
namespace Go.Proofs.YtgfoaopfdpclhaaGreatDoor
open Go.RowKit
set_option linter.unusedVariables false
set_option maxRecDepth 100000

/-- A maker's cells: the rules, the request, what is said, the item. -/
def mC (v : Value) (r : Rq) (f : Ff) (x : It) : Array Value := #[v, .string (S r.h), .string (S r.p), .bool r.s, .bool r.c,
  .bool f.he, .bool f.ha, .bool f.hd, .bool f.hp, .int .i64 f.ex, .int .i64 f.ag, .string (S f.dm), .string (S f.pt), .bool f.sc, .bool f.ho,
  .string (S x.k.n), .string (S x.k.d), .string (S x.k.p), .string (S x.c.v), .bool x.c.ho, .bool x.c.se, .bool x.c.ht, .bool x.c.pe, .int .i64 x.c.ex, .int .i64 x.c.cr, .int .i64 x.c.ac]
theorem m_cells {w : World} {g : Nat} {t : TypeId} {v : Value} {r : Rq} {f : Ff} {x : It} (h : Blk w g t (mC v r f x)) :
    w.cell? ⟨g, 0, none⟩ = some v ∧ w.cell? ⟨g, 1, none⟩ = some (.string (S r.h)) ∧ w.cell? ⟨g, 2, none⟩ = some (.string (S r.p)) ∧ w.cell? ⟨g, 4, none⟩ = some (.bool r.c) ∧ w.cell? ⟨g, 7, none⟩ = some (.bool f.hd) ∧ w.cell? ⟨g, 8, none⟩ = some (.bool f.hp) ∧
    w.cell? ⟨g, 11, none⟩ = some (.string (S f.dm)) ∧ w.cell? ⟨g, 12, none⟩ = some (.string (S f.pt)) ∧ w.cell? ⟨g, 13, none⟩ = some (.bool f.sc) ∧ w.cell? ⟨g, 14, none⟩ = some (.bool f.ho) ∧
    w.cell? ⟨g, 15, none⟩ = some (.string (S x.k.n)) ∧ w.cell? ⟨g, 16, none⟩ = some (.string (S x.k.d)) ∧ w.cell? ⟨g, 17, none⟩ = some (.string (S x.k.p)) ∧ w.cell? ⟨g, 19, none⟩ = some (.bool x.c.ho) ∧ w.cell? ⟨g, 20, none⟩ = some (.bool x.c.se) ∧ w.cell? ⟨g, 21, none⟩ = some (.bool x.c.ht) ∧ (∀ i, w.frozen? ⟨g, i, none⟩ = false) :=
  ⟨h.cell 0, h.cell 1, h.cell 2, h.cell 4, h.cell 7, h.cell 8, h.cell 11, h.cell 12, h.cell 13, h.cell 14, h.cell 15, h.cell 16, h.cell 17, h.cell 19, h.cell 20, h.cell 21, h.free⟩
def MPost (k : Int) (v : Value) (g : Nat) (r : Rq) (f : Ff) (x : It) (w : World) (e : Ending) (w' : World) : Prop := e = .returned (.int .i64 k) ∧ Blk w' g 56 (mC v r f x) ∧ w.grownBy w' (some g)
theorem mpost_of {k k' : Int} {v : Value} {g : Nat} {r : Rq} {f f' : Ff} {x x' : It} {w w' : World} {e : Ending} (h : MPost k v g r f x w e w') (h1 : k = k') (h2 : f = f') (h3 : x = x') : MPost k' v g r f' x' w e w' := by subst h1 h2 h3; exact h

theorem gm_trans {w a b : World} {g : Nat} (h1 : w.grownBy a (some g)) (h2 : a.grownBy b (some g)) : w.grownBy b (some g) :=
  ⟨h2.os.trans h1.os, h2.tape.trans h1.tape, h2.output.trans h1.output, Nat.le_trans h1.size h2.size, fun k hk hne => (h2.block k (Nat.lt_of_lt_of_le hk h1.size) hne).trans (h1.block k hk hne)⟩
/-- Who may see it. -/
def flagE (r : Rq) (f : Ff) : Int := if f.ho && r.c then 15 else 0
def flagX (r : Rq) (f : Ff) (x : It) : It := if f.ho && r.c then x else ⟨x.k, { x.c with se := f.sc, ht := f.ho }⟩
set_option maxRecDepth 20000 in
set_option maxHeartbeats 2000000 in
theorem mFlags_any (v : Value) (r : Rq) (f : Ff) (x : It) (g : Nat) (w : World) (hK : Blk w g 56 (mC v r f x)) :
    Calls Tryz.prog 24 #[.pointer (some ⟨g, 0, none⟩)] w (MPost (flagE r f) v g r f (flagX r f x) w) := by
  obtain ⟨c0, c1, c2, c4, c7, c8, c11, c12, c13, c14, c15, c16, c17, c19, c20, c21, cf⟩ := m_cells hK
  have hgl := hK.lt
  have hb0 := Below.refl w.heap.size w
  have hK0 := Lib.hid hK
  clear hK c0 c1 c2 c7 c8 c11 c12 c15 c16 c17
  by_cases hh : (f.ho && r.c) = true
  · have h1 : f.ho = true := by rw [Bool.and_eq_true] at hh; exact hh.1
    have h2 : r.c = true := by rw [Bool.and_eq_true] at hh; exact hh.2
    have hF : Hid (flagE r f = 15 ∧ flagX r f x = x) := by unfold flagE flagX; rw [hh]; exact ⟨rfl, rfl⟩
    clear hh
    rw [h1] at c14
    rw [h2] at c4
    go_enter Tryz.func24, Tryz.ntmps24
    go_wp2
    go_ret
    rw [hF.out.1, hF.out.2]
    exact ⟨rfl, hK0.out, grown_bel hb0 g⟩
  · have hF : Hid (flagE r f = 0 ∧ flagX r f x = ⟨x.k, { x.c with se := f.sc, ht := f.ho }⟩) := by unfold flagE flagX; rw [if_neg hh, if_neg hh]; exact ⟨rfl, rfl⟩
    have hh2 : (f.ho && r.c) = false := by simpa using hh
    cases h1 : f.ho
    all_goals cases h2 : r.c
    all_goals first
      | (exfalso; rw [h1, h2] at hh2; exact Bool.noConfusion (show true = false from hh2))
      | (rw [h1] at c14
         rw [h2] at c4
         clear hh hh2
         go_enter Tryz.func24, Tryz.ntmps24
         go_upto_region 3 with (fail)
         go_region
         all_goals go_wp2
         all_goals go_ret
         all_goals rw [hF.out.1, hF.out.2]
         all_goals rw [h1]
         all_goals refine ⟨rfl, ?_, gm_trans (grown_set (grown_set (grown_bel hb0 g) _ _) _ _) (grown_bel (Below.refl _ _).drew g)⟩
         all_goals first
           | exact (Blk.put (Blk.put hK0.out 20 (.bool f.sc)) 21 (.bool _)).below (Below.refl _ _).drew
           | exact (Blk.put (Blk.put hK0.out 21 (.bool _)) 20 (.bool f.sc)).below (Below.refl _ _).drew)

/-- Its path. -/
def pathM (r : Rq) (f : Ff) : List UInt8 := if f.hp then f.pt else dirOf r.p
def pathE (r : Rq) (f : Ff) : Int := if 256 < (pathM r f).length then 3 else 0
def pathX (r : Rq) (f : Ff) (x : It) : It := if 256 < (pathM r f).length then x else ⟨{ x.k with p := pathM r f }, x.c⟩
set_option maxRecDepth 20000 in
set_option maxHeartbeats 2000000 in
theorem mPath_any (v : Value) (r : Rq) (f : Ff) (x : It) (g : Nat) (w : World) (hK : Blk w g 56 (mC v r f x)) (hr : r.p.length ≤ 4294967296) :
    Calls Tryz.prog 23 #[.pointer (some ⟨g, 0, none⟩)] w (MPost (pathE r f) v g r f (pathX r f x) w) := by
  have hm : (S r.p).size ≤ maxLen := by unfold maxLen; simp; omega
  obtain ⟨c0, c1, c2, c4, c7, c8, c11, c12, c13, c14, c15, c16, c17, c19, c20, c21, cf⟩ := m_cells hK
  have hgl := hK.lt
  have hb0 := Below.refl w.heap.size w
  have hK0 := Lib.hid hK
  clear hK c0 c1 c4 c7 c11 c13 c14 c15 c16
  have hE : Hid (pathE r f = if 256 < (pathM r f).length then 3 else 0) := rfl
  have hX : Hid (pathX r f x = if 256 < (pathM r f).length then x else ⟨{ x.k with p := pathM r f }, x.c⟩) := rfl
  cases hp : f.hp with
  | true =>
    have hM : pathM r f = f.pt := by unfold pathM; rw [hp]; rfl
    rw [hM] at hE hX
    rw [hp] at c8
    clear hM hp
    by_cases hl : (256 : Int) < f.pt.length
    · have hl2 : 256 < f.pt.length := by omega
      have hF : Hid (pathE r f = 3 ∧ pathX r f x = x) := by show _ ∧ _; rw [hE.out, hX.out, if_pos hl2, if_pos hl2]; exact ⟨rfl, rfl⟩
      clear hE hX hl2
      go_enter Tryz.func23, Tryz.ntmps23
      go_wp2
      go_ret
      rw [hF.out.1, hF.out.2]
      exact ⟨rfl, hK0.out, grown_bel hb0 g⟩
    · have hl2 : ¬ 256 < f.pt.length := by omega
      have hF : Hid (pathE r f = 0 ∧ pathX r f x = ⟨{ x.k with p := f.pt }, x.c⟩) := by show _ ∧ _; rw [hE.out, hX.out, if_neg hl2, if_neg hl2]; exact ⟨rfl, rfl⟩
      clear hE hX hl2
      go_enter Tryz.func23, Tryz.ntmps23
      go_wp2
      go_ret
      rw [hF.out.1, hF.out.2]
      exact ⟨rfl, Blk.put hK0.out 17 (.string (S f.pt)), grown_set (grown_bel hb0 g) 17 _⟩
  | false =>
    have hM : pathM r f = dirOf r.p := by unfold pathM; rw [hp]; rfl
    rw [hM] at hE hX
    rw [hp] at c8
    clear hM hp
    generalize hD : dirOf r.p = D at *
    by_cases hl : (256 : Int) < D.length
    · have hl2 : 256 < D.length := by omega
      have hF : Hid (pathE r f = 3 ∧ pathX r f x = x) := by show _ ∧ _; rw [hE.out, hX.out, if_pos hl2, if_pos hl2]; exact ⟨rfl, rfl⟩
      clear hE hX hl2
      go_enter Tryz.func23, Tryz.ntmps23
      go_wp2_with fail
      refine (default_any (S r.p) _ hm).mono ?_
      rintro e w1 ⟨rfl, rfl⟩
      rw [S_toList, hD]
      go_wp2
      go_ret
      rw [hF.out.1, hF.out.2]
      exact ⟨rfl, hK0.out, grown_bel hb0 g⟩
    · have hl2 : ¬ 256 < D.length := by omega
      have hF : Hid (pathE r f = 0 ∧ pathX r f x = ⟨{ x.k with p := D }, x.c⟩) := by show _ ∧ _; rw [hE.out, hX.out, if_neg hl2, if_neg hl2]; exact ⟨rfl, rfl⟩
      clear hE hX hl2
      go_enter Tryz.func23, Tryz.ntmps23
      go_wp2_with fail
      refine (default_any (S r.p) _ hm).mono ?_
      rintro e w1 ⟨rfl, rfl⟩
      rw [S_toList, hD]
      go_wp2
      go_ret
      rw [hF.out.1, hF.out.2]
      exact ⟨rfl, Blk.put hK0.out 17 (.string (S D)), grown_set (grown_bel hb0 g) 17 _⟩
def domE (rs : List (List UInt8)) (r : Rq) (f : Ff) : Int :=
  if f.hd then (if (canonT f.dm).2 = 0 then (if publicB rs (canonT f.dm).1 then (if (canonT f.dm).1 == r.h then 0 else 14) else if matchB r.h (canonT f.dm).1 then 0 else 13) else 13) else 0
/-- Is a domain said, and no public suffix? -/
def domS (rs : List (List UInt8)) (f : Ff) : Bool := f.hd && !publicB rs (canonT f.dm).1
def domK (rs : List (List UInt8)) (r : Rq) (f : Ff) : List UInt8 := if domS rs f then (canonT f.dm).1 else r.h
theorem canonT_len (l : List UInt8) : (canonT l).1.length ≤ 256 := by
  unfold canonT
  split
  · simp
  · split
    · show (lowerL l).length ≤ 256
      unfold lowerL
      rw [List.length_map]; omega
    · simp
set_option maxRecDepth 20000 in
set_option maxHeartbeats 8000000 in
theorem mDomain_any (A : Option Addr) (n c : Nat) (rs : List (List UInt8)) (r : Rq) (f : Ff) (x : It) (g : Nat) (w : World) (hK : Blk w g 56 (mC (.slice A n c) r f x)) (hR : Rd w 1 (.slice A n c) n (rs.map strV)) (hrs : ∀ q ∈ rs, q.length ≤ 4294967296) (hr : r.h.length ≤ 4294967296) (hf : f.dm.length ≤ 4294967296) (hx : x.c.ho = false) :
    Calls Tryz.prog 22 #[.pointer (some ⟨g, 0, none⟩)] w fun e w' => e = .returned (.int .i64 (domE rs r f)) ∧ w.grownBy w' (some g) ∧ (domE rs r f = 0 → Blk w' g 56 (mC (.slice A n c) r { f with hd := domS rs f } ⟨{ x.k with d := domK rs r f }, { x.c with ho := !domS rs f }⟩)) := by
  have hzd : (S f.dm).size ≤ 4294967296 := by simp; omega
  have hzh : (S r.h).size ≤ 4294967296 := by simp; omega
  obtain ⟨c0, c1, c2, c4, c7, c8, c11, c12, c13, c14, c15, c16, c17, c19, c20, c21, cf⟩ := m_cells hK
  have hgl := hK.lt
  have hb0 := Below.refl w.heap.size w
  have hK0 := Lib.hid hK
  have hE : Hid (domE rs r f = if f.hd then (if (canonT f.dm).2 = 0 then (if publicB rs (canonT f.dm).1 then (if (canonT f.dm).1 == r.h then 0 else 14) else if matchB r.h (canonT f.dm).1 then 0 else 13) else 13) else 0) := rfl
  have hS : Hid (domS rs f = (f.hd && !publicB rs (canonT f.dm).1)) := rfl
  have hk : Hid (domK rs r f = if domS rs f then (canonT f.dm).1 else r.h) := rfl
  clear c2 c4 c8 c12 c13 c14 c15 c17 c20 c21
  cases hd : f.hd with
  | false =>
    rw [hd] at c7
    have hF : Hid (domE rs r f = 0 ∧ domS rs f = false ∧ domK rs r f = r.h) := by
      have e1 : domS rs f = false := by rw [hS.out, hd]; rfl
      exact ⟨by rw [hE.out, hd]; rfl, e1, by rw [hk.out, e1]; rfl⟩
    have hfe : Hid (({ f with hd := false } : Ff) = f) := by
      show _ = _
      rw [← hd]
    clear hE hS hk hd
    go_enter Tryz.func22, Tryz.ntmps22
    go_wp2
    go_ret
    refine ⟨by rw [hF.out.1]; rfl, grown_set (grown_set (grown_bel hb0 g) 16 _) 19 _, fun _ => ?_⟩
    rw [hF.out.2.1, hF.out.2.2, hfe.out]
    exact Blk.put (Blk.put hK0.out 16 (.string (S r.h))) 19 (.bool true)
  | true =>
    rw [hd] at c7
    have hcl := canonT_len f.dm
    obtain ⟨D, hD⟩ : ∃ D, D = (canonT f.dm).1 := ⟨_, rfl⟩
    obtain ⟨k, hkk⟩ : ∃ k, k = (canonT f.dm).2 := ⟨_, rfl⟩
    rw [← hD] at hcl
    have hE2 : Hid (domE rs r f = if k = 0 then (if publicB rs D then (if D == r.h then 0 else 14) else if matchB r.h D then 0 else 13) else 13) := by show _ = _; rw [hE.out, hd, hD, hkk]; rfl
    have hS2 : Hid (domS rs f = !publicB rs D) := by show _ = _; rw [hS.out, hd, hD]; rfl
    have hk2 : Hid (domK rs r f = if domS rs f then D else r.h) := by show _ = _; rw [hk.out, hD]
    have hfe : Hid (({ f with hd := true } : Ff) = f) := by
      show _ = _
      rw [← hd]
    have hD0 := Lib.hid hD.symm
    have hk0 := Lib.hid hkk.symm
    clear hD hkk hE hS hk hd
    have hzD : (S D).size ≤ 4294967296 := by simp; omega
    go_enter Tryz.func22, Tryz.ntmps22
    go_wp2_with fail
    refine (canon_any (S f.dm) _ hzd).mono ?_
    rintro e w1 ⟨rfl, hb1⟩
    rw [S_toList, hD0.out, hk0.out]
    have hK1 := hK0.out.below hb1
    have hR1 := hR.below hb1
    clear hR hK c0 c1 c7 c11 c16 c19 cf hgl
    obtain ⟨c0, c1, c2, c4, c7, c8, c11, c12, c13, c14, c15, c16, c17, c19, c20, c21, cf⟩ := m_cells hK1
    have hgl := hK1.lt
    clear c2 c4 c8 c12 c13 c14 c15 c17 c20 c21
    replace hK1 := Lib.hid hK1
    have hf7 : w1.cell? ⟨g, 7, none⟩ = some (.bool true) := by rw [c7]; rw [show f.hd = true from by have := congrArg Ff.hd hfe.out; exact this.symm]
    clear c7
    by_cases hk1 : k = 0
    · subst hk1
      have hE3 : Hid (domE rs r f = if publicB rs D then (if D == r.h then 0 else 14) else if matchB r.h D then 0 else 13) := by show _ = _; rw [hE2.out, if_pos rfl]
      clear hE2
      go_wp2_with fail
      refine (public_any A n c rs D _ hR1 hrs (by omega)).mono ?_
      rintro e w2 ⟨rfl, hb2⟩
      have hb12 := bel_call hb1 hb2
      have hK2 := hK1.out.below hb2
      have hR2 := hR1.below hb2
      clear hR1 hK1 c0 c1 c11 c16 c19 cf hgl hf7 hb2
      obtain ⟨c0, c1, c2, c4, c7, c8, c11, c12, c13, c14, c15, c16, c17, c19, c20, c21, cf⟩ := m_cells hK2
      have hgl := hK2.lt
      clear c2 c4 c8 c12 c13 c14 c15 c17 c20 c21
      replace hK2 := Lib.hid hK2
      have hf7 : w2.cell? ⟨g, 7, none⟩ = some (.bool true) := by rw [c7]; rw [show f.hd = true from by have := congrArg Ff.hd hfe.out; exact this.symm]
      clear c7
      cases hp : publicB rs D with
      | true =>
        by_cases hq : D = r.h
        · have hF : Hid (domE rs r f = 0 ∧ domS rs f = false ∧ domK rs r f = r.h) := by
            have e1 : domS rs f = false := by rw [hS2.out, hp]; rfl
            exact ⟨by rw [hE3.out, hp, if_pos rfl, hq]; simp, e1, by rw [hk2.out, e1]; rfl⟩
          have hq1 : (D == r.h) = true := by simpa using hq
          have hq2 : (D != r.h) = false := by simpa using hq
          have hpH := Lib.hid hp
          clear hE3 hS2 hk2 hp hq
          go_wp2_with fail
          refine (public_any A n c rs D _ hR2 hrs (by omega)).mono ?_
          rintro e w3 ⟨rfl, hb3⟩
          have hb13 := bel_call hb12 hb3
          have hK3 := hK2.out.below hb3
          clear hR2 hK2 c0 c1 c11 c16 c19 cf hgl hf7 hb3
          obtain ⟨c0, c1, c2, c4, c7, c8, c11, c12, c13, c14, c15, c16, c17, c19, c20, c21, cf⟩ := m_cells hK3
          have hgl := hK3.lt
          clear c2 c4 c8 c12 c13 c14 c15 c17 c20 c21
          replace hK3 := Lib.hid hK3
          rw [hpH.out]
          go_wp2
          go_ret
          refine ⟨by rw [hF.out.1]; rfl, grown_set (grown_set (grown_set (grown_set (grown_bel hb13 g) 7 _) 16 _) 16 _) 19 _, fun _ => ?_⟩
          rw [hF.out.2.1, hF.out.2.2]
          exact Blk.put (Blk.put (Blk.put (Blk.put hK3.out 7 (.bool false)) 16 (.string (S D))) 16 (.string (S r.h))) 19 (.bool true)
        · have hF : Hid (domE rs r f = 14) := by
            show _ = _
            rw [hE3.out, hp, if_pos rfl, if_neg (by simpa using hq)]
          have hq1 : (D == r.h) = false := by simpa using hq
          have hq2 : (D != r.h) = true := by simpa using hq
          clear hE3 hS2 hk2 hp hq
          go_wp2
          go_ret
          refine ⟨by rw [hF.out]; rfl, grown_bel hb12 g, fun h => ?_⟩
          rw [hF.out] at h; cases h
      | false =>
        have hS3 : Hid (domS rs f = true) := by show _ = _; rw [hS2.out, hp]; rfl
        have hk3 : Hid (domK rs r f = D) := by show _ = _; rw [hk2.out, hS3.out]; rfl
        have hE4 : Hid (domE rs r f = if matchB r.h D then 0 else 13) := by show _ = _; rw [hE3.out, hp]; rfl
        have hpH := Lib.hid hp
        clear hE3 hS2 hk2 hp
        go_wp2_with fail
        refine (public_any A n c rs D _ hR2 hrs (by omega)).mono ?_
        rintro e w3 ⟨rfl, hb3⟩
        have hb13 := bel_call hb12 hb3
        have hK3 := hK2.out.below hb3
        clear hR2 hK2 c0 c1 c11 c16 c19 cf hgl hf7 hb3
        obtain ⟨c0, c1, c2, c4, c7, c8, c11, c12, c13, c14, c15, c16, c17, c19, c20, c21, cf⟩ := m_cells hK3
        have hgl := hK3.lt
        clear c2 c4 c8 c12 c13 c14 c15 c17 c20 c21 c7
        replace hK3 := Lib.hid hK3
        rw [hpH.out]
        go_wp2_with fail
        refine (hmatch_any (S r.h) (S D) _ hzh hzD).mono ?_
        rintro e w4 ⟨rfl, hb4⟩
        rw [S_toList, S_toList]
        have hb14 := bel_call hb13 hb4
        have hK4 := hK3.out.below hb4
        clear hK3 c0 c1 c11 c16 c19 cf hgl hb4
        obtain ⟨c0, c1, c2, c4, c7, c8, c11, c12, c13, c14, c15, c16, c17, c19, c20, c21, cf⟩ := m_cells hK4
        have hgl := hK4.lt
        clear c2 c4 c8 c12 c13 c14 c15 c17 c20 c21
        replace hK4 := Lib.hid hK4
        have hf7 : w4.cell? ⟨g, 7, none⟩ = some (.bool true) := by rw [c7]; rw [show f.hd = true from by have := congrArg Ff.hd hfe.out; exact this.symm]
        clear c7
        cases hm : matchB r.h D with
        | true =>
          have hF : Hid (domE rs r f = 0) := by show _ = _; rw [hE4.out, hm]; rfl
          clear hE4 hm
          go_wp2
          go_ret
          refine ⟨by rw [hF.out]; rfl, grown_set (grown_bel hb14 g) 16 _, fun _ => ?_⟩
          rw [hS3.out, hk3.out, hfe.out]
          have e : (⟨{ x.k with d := D }, { x.c with ho := !true }⟩ : It) = ⟨{ x.k with d := D }, x.c⟩ := by
            show (⟨{ x.k with d := D }, { x.c with ho := false }⟩ : It) = _
            rw [← hx]
          rw [e]
          exact Blk.put hK4.out 16 (.string (S D))
        | false =>
          have hF : Hid (domE rs r f = 13) := by show _ = _; rw [hE4.out, hm]; rfl
          clear hE4 hm
          go_wp2
          go_ret
          refine ⟨by rw [hF.out]; rfl, grown_bel hb14 g, fun h => ?_⟩
          rw [hF.out] at h; cases h
    · have hF : Hid (domE rs r f = 13) := by show _ = _; rw [hE2.out, if_neg hk1]
      have hk3 : (k != 0) = true := by simpa using hk1
      clear hE2 hS2 hk2 hk1
      go_wp2
      go_ret
      refine ⟨by rw [hF.out]; rfl, grown_bel hb1 g, fun h => ?_⟩
      rw [hF.out] at h; cases h
end Go.Proofs.YtgfoaopfdpclhaaGreatDoor
