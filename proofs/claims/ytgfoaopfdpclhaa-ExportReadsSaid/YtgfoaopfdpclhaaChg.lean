/-
  Changes: their cells; structs stored, built and compared whole.
-/
import Derived.Test.YtgfoaopfdpclhaaDiff
import Derived.Laws.IdiomCopy
namespace Go.Proofs.Ytgfoaopfdpclhaa
open Go.RowKit
set_option linter.unusedVariables false

def cC (x : Ch) : List Value := .int .i64 x.kd :: (cI x.o ++ cI x.n)
abbrev vC (x : Ch) : Value := .agg (cC x).toArray
@[simp, go_sem] theorem cC_len (x : Ch) : (cC x).length = 23 := Eq.trans rfl rfl
@[simp, go_sem] theorem cC_0 (x : Ch) : (cC x)[0]? = some (.int .i64 x.kd) := rfl
@[simp, go_sem] theorem cC_g0 (x : Ch) (h : 0 < (cC x).length) : (cC x)[0] = .int .i64 x.kd := rfl
theorem cC_inj {a b : Ch} (h : cC a = cC b) : a = b := by
  obtain ⟨h0, h⟩ := List.cons.inj h
  obtain ⟨h1, h2⟩ := List.append_inj h rfl
  have e1 := cI_inj h1
  have e2 := cI_inj h2
  injection h0 with _ h0
  cases a; cases b
  simp only at e1 e2 h0
  rw [h0, e1, e2]
/-- Is each of one cell? -/
def oneB (l : List Value) : Bool := l.all (·.oneCell')
theorem oneB_all {l : List Value} (h : oneB l = true) : ∀ v ∈ l, v.oneCell' = true := by unfold oneB at h; simpa using h
@[simp, go_sem] theorem oneB_K (k : Ky) : oneB (cK k) = true := Eq.trans rfl rfl
@[simp, go_sem] theorem oneB_Ck (k : Ck) : oneB (cCk k) = true := Eq.trans rfl rfl
@[simp, go_sem] theorem oneB_I (k : It) : oneB (cI k) = true := Eq.trans rfl rfl
@[simp, go_sem] theorem oneB_C (k : Ch) : oneB (cC k) = true := Eq.trans rfl rfl
theorem cC_one (x : Ch) : ∀ u ∈ (cC x).toArray.toList, u.oneCell' = true := oneB_all (by simp)

noncomputable def chAt (w : World) (b o : Nat) : Option Ch := rdAt cC w b o
theorem chAt_of {w : World} {b o : Nat} {k : Ch} (h : w.rangeAt b o (cC k)) : chAt w b o = some k := rdAt_of (fun _ _ => cC_inj) (fun _ _ => rfl) h
theorem ch_parts {w : World} {b o : Nat} {x : Ch} (h : chAt w b o = some x) : w.cell? ⟨b, o, none⟩ = some (.int .i64 x.kd) ∧ itAt w b (o + 1) = some x.o ∧ itAt w b (o + 12) = some x.n ∧ kyAt w b (o + 1) = some x.o.k ∧ kyAt w b (o + 12) = some x.n.k := by
  have hr : w.rangeAt b o (cC x) := rdAt_range (f := cC) h
  have h1 : itAt w b (o + 1) = some x.o := itAt_of (range_part (l := [.int .i64 x.kd]) (m := cI x.o) (r := cI x.n) hr)
  have h2 : itAt w b (o + 12) = some x.n := itAt_of (range_part (l := .int .i64 x.kd :: cI x.o) (m := cI x.n) (r := []) (by rw [List.append_nil]; exact hr))
  exact ⟨hr 0 _ rfl, h1, h2, kyAt_it h1, kyAt_it h2⟩
theorem ch_lt {w : World} {b o : Nat} {x : Ch} (h : chAt w b o = some x) : b < w.heap.size := World.block_lt_of_cell? w _ (ch_parts h).1
theorem chAt_later {w w1 : World} {b o : Nat} {k : Ch} (h : chAt w b o = some k) (hb : Below w.heap.size w w1) : chAt w1 b o = some k := rdAt_kept hb (ch_lt h) h
theorem ch_drew {w : World} {b o : Nat} {k : Ch} (h : chAt w b o = some k) : chAt w.drew b o = some k := (rdAt_drew _ _ _ _).trans h
@[go_sem] theorem kyAt_drewN (w : World) (n b o : Nat) : kyAt (w.drewN n) b o = kyAt w b o := rdAt_cells fun o => by simp
@[go_sem] theorem itAt_drewN (w : World) (n b o : Nat) : itAt (w.drewN n) b o = itAt w b o := rdAt_cells fun o => by simp
@[go_sem] theorem chAt_drewN (w : World) (n b o : Nat) : chAt (w.drewN n) b o = chAt w b o := rdAt_cells fun o => by simp
theorem itAt_dN {w : World} {b o : Nat} {k : It} (h : itAt w b o = some k) (n : Nat) : itAt (w.drewN n) b o = some k := (itAt_drewN w n b o).trans h
theorem kyAt_dN {w : World} {b o : Nat} {k : Ky} (h : kyAt w b o = some k) (n : Nat) : kyAt (w.drewN n) b o = some k := (kyAt_drewN w n b o).trans h
theorem chAt_dN {w : World} {b o : Nat} {k : Ch} (h : chAt w b o = some k) (n : Nat) : chAt (w.drewN n) b o = some k := (chAt_drewN w n b o).trans h
theorem there_dN {w : World} {b o m : Nat} (h : w.there b o m) (n : Nat) : (w.drewN n).there b o m := h
theorem below_setCells {B : Nat} {a : World} (b : Nat) : ∀ (l : List Value) (o : Nat) {w : World}, Below B a w → B ≤ b → Below B a (w.setCells b o l)
  | [], _, _, h, _ => h
  | v :: l, o, _, h, hb => below_setCells b l (o + 1) (h.setCell hb v) hb
theorem itAt_setCells {w : World} {b : Nat} (x : It) (h : w.there b 0 11) : itAt (w.setCells b 0 (cI x)) b 0 = some x := itAt_of (World.rangeAt_setCells_same w b 0 (cI x) h)
theorem chAt_setCells {w : World} {b : Nat} (x : Ch) (h : w.there b 0 23) : chAt (w.setCells b 0 (cC x)) b 0 = some x := chAt_of (World.rangeAt_setCells_same w b 0 (cC x) h)
theorem rdAt_far {α : Type} {f : α → List Value} {w : World} {b o b' o' : Nat} {l : List Value} (h : b ≠ b') : rdAt f (w.setCells b' o' l) b o = rdAt f w b o :=
  rdAt_cells fun o => World.cell?_setCells_out b' l o' w ⟨b, o, none⟩ (fun e _ => absurd e h)
@[go_sem] theorem itAt_setCells_ne (w : World) (b o b' o' : Nat) (l : List Value) (h : b ≠ b') : itAt (w.setCells b' o' l) b o = itAt w b o := rdAt_far h
@[go_sem] theorem kyAt_setCells_ne (w : World) (b o b' o' : Nat) (l : List Value) (h : b ≠ b') : kyAt (w.setCells b' o' l) b o = kyAt w b o := rdAt_far h
@[go_sem] theorem chAt_setCells_ne (w : World) (b o b' o' : Nat) (l : List Value) (h : b ≠ b') : chAt (w.setCells b' o' l) b o = chAt w b o := rdAt_far h
theorem itAt_far {w : World} {b o b' o' : Nat} {l : List Value} {x : It} (hx : itAt w b o = some x) (h : b ≠ b') : itAt (w.setCells b' o' l) b o = some x := (rdAt_far h).trans hx
theorem kyAt_far {w : World} {b o b' o' : Nat} {l : List Value} {x : Ky} (hx : kyAt w b o = some x) (h : b ≠ b') : kyAt (w.setCells b' o' l) b o = some x := (rdAt_far h).trans hx
@[go_sem] theorem there_drewN (w : World) (k b o n : Nat) : (w.drewN k).there b o n = w.there b o n := rfl
@[go_sem] theorem chAt_drew (w : World) (b o : Nat) : chAt w.drew b o = chAt w b o := rdAt_drew _ _ _ _
@[go_sem] theorem chAt_alloc (w : World) (ob : Obj) (b o : Nat) (h : b < w.heap.size) : chAt (w.alloc ob) b o = chAt w b o := rdAt_alloc _ _ _ _ _ h
@[go_sem] theorem chAt_new (w : World) (k : Ch) (t g : Nat) (hg : w.heap.size = g) : chAt (w.alloc (.cells (cC k).toArray t)) g 0 = some k := by
  subst hg; exact chAt_of (range_blk (heap_alloc_new w _))
@[go_sem] theorem itAt_newC1 (w : World) (k : Ch) (t g : Nat) (hg : w.heap.size = g) : itAt (w.alloc (.cells (cC k).toArray t)) g 1 = some k.o := (ch_parts (chAt_new w k t g hg)).2.1
@[go_sem] theorem itAt_newC2 (w : World) (k : Ch) (t g : Nat) (hg : w.heap.size = g) : itAt (w.alloc (.cells (cC k).toArray t)) g 12 = some k.n := (ch_parts (chAt_new w k t g hg)).2.2.1
@[go_sem] theorem kyAt_newC1 (w : World) (k : Ch) (t g : Nat) (hg : w.heap.size = g) : kyAt (w.alloc (.cells (cC k).toArray t)) g 1 = some k.o.k := (ch_parts (chAt_new w k t g hg)).2.2.2.1
@[go_sem] theorem kyAt_newC2 (w : World) (k : Ch) (t g : Nat) (hg : w.heap.size = g) : kyAt (w.alloc (.cells (cC k).toArray t)) g 12 = some k.n.k := (ch_parts (chAt_new w k t g hg)).2.2.2.2
theorem Rd.changes {w : World} {n c : Nat} {A : Option Addr} {l : List Ch} (h : Rd w 23 (.slice A n c) n (l.flatMap cC)) {k : Nat} (hk : k < l.length) :
    ∃ b off, A = some ⟨b, off, none⟩ ∧ b < w.heap.size ∧ ∀ j (hj : j < l.length), chAt w b (off + j * 23) = some l[j] := by
  obtain ⟨b, off, hA, hb, hc⟩ := h.range (sz := 23) (fun q => rfl) (by decide) hk
  exact ⟨b, off, hA, hb, fun j hj => chAt_of (hc j hj)⟩
theorem Rd.it {w : World} {n c b off : Nat} {l : List It} (h : Rd w 11 (.slice (some ⟨b, off, none⟩) n c) n (l.flatMap cI)) {j : Nat} (hj : j < l.length) : itAt w b (off + j * 11) = some l[j] := by
  obtain ⟨b', off', hA, _, hx⟩ := h.items hj
  have h1 : b = b' ∧ off = off' := by simpa using hA
  obtain ⟨rfl, rfl⟩ := h1
  exact (hx j hj).1
theorem Rd.ch {w : World} {n c b off : Nat} {l : List Ch} (h : Rd w 23 (.slice (some ⟨b, off, none⟩) n c) n (l.flatMap cC)) {j : Nat} (hj : j < l.length) : chAt w b (off + j * 23) = some l[j] := by
  obtain ⟨b', off', hA, _, hx⟩ := h.changes hj
  have h1 : b = b' ∧ off = off' := by simpa using hA
  obtain ⟨rfl, rfl⟩ := h1
  exact hx j hj

/-! A struct stored whole into a block of the call's own. -/
@[go_sem] theorem there_drew (w : World) (b o n : Nat) : w.drew.there b o n = w.there b o n := propext (World.there_drew w b o n)
@[go_sem] theorem there_alloc_lt (w : World) (ob : Obj) (b o n : Nat) (h : b < w.heap.size) : (w.alloc ob).there b o n = w.there b o n := by
  apply propext
  unfold World.there
  have e1 : ∀ j, (w.alloc ob).cell? ⟨b, o + j, none⟩ = w.cell? ⟨b, o + j, none⟩ := fun j => World.cell?_alloc_lt _ _ _ h
  have e2 : ∀ j, (w.alloc ob).frozen? ⟨b, o + j, none⟩ = w.frozen? ⟨b, o + j, none⟩ := fun j => (bel_cell (bel_alloc (Below.refl _ w) ob)).2 b _ h
  simp only [e1, e2]
@[go_sem] theorem there_alloc_new (w : World) (cs : Array Value) (t g o n : Nat) (hg : w.heap.size = g) (h : o + n ≤ cs.size) : (w.alloc (.cells cs t)).there g o n = True := by
  subst hg
  refine eq_true fun j hj => ?_
  have hb := Blk.new_ w t cs
  refine ⟨?_, hb.free _⟩
  rw [hb.cell, Array.getElem?_eq_getElem (by omega)]
  rfl
theorem setCells_alloc_lt (ob : Obj) (b : Nat) : ∀ (l : List Value) (o : Nat) (w : World), b < w.heap.size → (w.alloc ob).setCells b o l = (w.setCells b o l).alloc ob
  | [], _, _, _ => rfl
  | v :: l, o, w, h => by
    have e : (w.alloc ob).setCell ⟨b, o, none⟩ v = (w.setCell ⟨b, o, none⟩ v).alloc ob := by
      unfold World.setCell World.alloc
      simp only [World.mk.injEq, and_true]
      apply Array.ext
      · simp
      · intro i h1 h2
        simp only [Array.size_modify, Array.size_push] at h1
        rw [Array.getElem_modify, Array.getElem_push, Array.getElem_push]
        by_cases hi : i < w.heap.size
        · simp [hi, Array.getElem_modify]
        · have : ¬ b = i := by omega
          simp [hi, this]
    show ((w.alloc ob).setCell ⟨b, o, none⟩ v).setCells b (o + 1) l = _
    rw [e, setCells_alloc_lt ob b l (o + 1) _ (by simpa [World.setCell] using h)]
    rfl
attribute [go_sem] setCells_alloc_lt
def laid (cs : Array Value) : Nat → List Value → Array Value
  | _, [] => cs
  | o, v :: l => laid (cs.setIfInBounds o v) (o + 1) l
theorem laid_size : ∀ (l : List Value) (o : Nat) (cs : Array Value), (laid cs o l).size = cs.size
  | [], _, _ => rfl
  | v :: l, o, cs => by unfold laid; rw [laid_size l, Array.size_setIfInBounds]
theorem laid_lo : ∀ (l : List Value) (o : Nat) (cs : Array Value) (j : Nat), j < o → (laid cs o l)[j]? = cs[j]?
  | [], _, _, _, _ => rfl
  | v :: l, o, cs, j, h => by
    unfold laid
    rw [laid_lo l (o + 1) _ j (by omega), Array.getElem?_setIfInBounds_ne (by omega)]
theorem laid_at : ∀ (l : List Value) (o : Nat) (cs : Array Value) (j : Nat), o + l.length ≤ cs.size → j < l.length → (laid cs o l)[o + j]? = l[j]?
  | [], _, _, j, _, h => absurd h (by simp)
  | v :: l, o, cs, 0, h, _ => by
    unfold laid
    simp only [List.length_cons] at h
    show (laid (cs.setIfInBounds o v) (o + 1) l)[o]? = some v
    rw [laid_lo l (o + 1) _ o (by omega), Array.getElem?_setIfInBounds_self_of_lt (by omega)]
  | v :: l, o, cs, j + 1, h, hj => by
    unfold laid
    simp only [List.length_cons] at h hj
    rw [show o + (j + 1) = o + 1 + j by omega, laid_at l (o + 1) _ j (by rw [Array.size_setIfInBounds]; omega) (by omega)]
    rfl
theorem laid_whole (l : List Value) (cs : Array Value) (h : l.length = cs.size) : laid cs 0 l = l.toArray := by
  apply Array.ext
  · rw [laid_size]; simp [h]
  · intro j h1 h2
    have hj : j < l.length := by simpa using h2
    have := laid_at l 0 cs j (by omega) hj
    rw [Nat.zero_add, Array.getElem?_eq_getElem h1, List.getElem?_eq_getElem hj] at this
    simpa using Option.some.inj this
theorem setCells_laid (w : World) (t : TypeId) : ∀ (l : List Value) (o : Nat) (cs : Array Value), (w.alloc (.cells cs t)).setCells w.heap.size o l = w.alloc (.cells (laid cs o l) t)
  | [], _, _ => rfl
  | v :: l, o, cs => by
    have e : (w.alloc (.cells cs t)).setCell ⟨w.heap.size, o, none⟩ v = w.alloc (.cells (cs.setIfInBounds o v) t) := by
      unfold World.setCell World.alloc
      simp only [World.mk.injEq, and_true]
      apply Array.ext
      · simp
      · intro i h1 h2
        simp only [Array.size_modify, Array.size_push] at h1
        rw [Array.getElem_modify, Array.getElem_push, Array.getElem_push]
        by_cases hi : i < w.heap.size
        · have : ¬ w.heap.size = i := by omega
          simp [hi, this]
        · have : w.heap.size = i := by omega
          simp [this]
    show ((w.alloc (.cells cs t)).setCell ⟨w.heap.size, o, none⟩ v).setCells w.heap.size (o + 1) l = _
    rw [e, setCells_laid w t l (o + 1)]
    rfl
@[go_sem] theorem setCells_alloc_new (w : World) (cs : Array Value) (t g : Nat) (l : List Value) (hg : w.heap.size = g) (h : l.length = cs.size) : (w.alloc (.cells cs t)).setCells g 0 l = w.alloc (.cells l.toArray t) := by
  subst hg
  rw [setCells_laid, laid_whole l cs h]
@[go_sem] theorem setCells_drew (b : Nat) : ∀ (l : List Value) (o : Nat) (w : World), w.drew.setCells b o l = (w.setCells b o l).drew
  | [], _, _ => rfl
  | v :: l, o, w => by
    show (w.drew.setCell ⟨b, o, none⟩ v).setCells b (o + 1) l = _
    exact setCells_drew b l (o + 1) (w.setCell ⟨b, o, none⟩ v)

/-! Results that lie in a block of the call's own. -/
theorem results_cell {P : Program} {fn : Func} {a T : Nat} {tmps : Array Value} {w : World} {b o : Nat} {cs : List Value} (h : fn.results = #[.cell a T]) (ht : tmps.getD a undef = .pointer (some ⟨b, o, none⟩)) (hc : w.rangeAt b o cs)
    (hT : ∃ d, P.underlying T = some d ∧ d.isRow = true) (hi : (P.info? T).map (·.size) = some cs.length) : (results fn tmps).run P w = .ok (.agg cs.toArray) w := by
  obtain ⟨d, hu, hd⟩ := hT
  have hl := run_loadVar_mid (P := P) w b o T cs d hc hu hd hi
  rw [Array.getD_eq_getD_getElem?] at ht
  simp only [results, h]
  simp [ht, asAddr, hl]
theorem results_cell2 {P : Program} {fn : Func} {a T u : Nat} {tmps : Array Value} {w : World} {b o : Nat} {cs : List Value} (h : fn.results = #[.cell a T, .tmp u]) (ht : tmps.getD a undef = .pointer (some ⟨b, o, none⟩)) (hc : w.rangeAt b o cs)
    (hT : ∃ d, P.underlying T = some d ∧ d.isRow = true) (hi : (P.info? T).map (·.size) = some cs.length) : (results fn tmps).run P w = .ok (.tuple #[.agg cs.toArray, tmps.getD u undef]) w := by
  obtain ⟨d, hu, hd⟩ := hT
  have hl := run_loadVar_mid (P := P) w b o T cs d hc hu hd hi
  rw [Array.getD_eq_getD_getElem?] at ht
  simp only [results, h]
  simp [ht, asAddr, hl]
theorem Try.rowI : ∃ d, Try.prog.underlying 27 = some d ∧ d.isRow = true := ⟨.struct (Try.prog.fieldsOf 27), by kernel_rfl, rfl⟩
theorem bp_id {P : Program} {f : Func} {R : Ending → World → Prop} {a : Act} {w : World} (h : bodyPost P f R .ret a w) : bodyPost P f R .ret a w := h
/-- The end of a function whose result is an item, or an item and another value. -/
theorem ret_item {fn : Func} {R : Ending → World → Prop} {act : Act} {w : World} {a b o : Nat} {x : It} (h : fn.results = #[.cell a 27]) (hd : act.defers = []) (ht : act.tmps.getD a undef = .pointer (some ⟨b, o, none⟩)) (hx : itAt w b o = some x) (hR : R (.returned (vI x)) w) : bodyPost Try.prog fn R .ret act w :=
  bodyPost_ret (results_cell h ht (rdAt_range (f := cI) hx) Try.rowI (by kernel_rfl)) hd hR
theorem ret_item2 {fn : Func} {R : Ending → World → Prop} {act : Act} {w : World} {a b o u : Nat} {x : It} (h : fn.results = #[.cell a 27, .tmp u]) (hd : act.defers = []) (ht : act.tmps.getD a undef = .pointer (some ⟨b, o, none⟩)) (hx : itAt w b o = some x) (hR : R (.returned (.tuple #[vI x, act.tmps.getD u undef])) w) : bodyPost Try.prog fn R .ret act w :=
  bodyPost_ret (results_cell2 h ht (rdAt_range (f := cI) hx) Try.rowI (by kernel_rfl)) hd hR
def setK (a : Addr) (x : Value) : Sem Unit := storeVar 23 a x
@[go_sem ↓] theorem to_setK (a : Addr) (x : Value) : storeVar 23 a x = setK a x := rfl
theorem run_setK' (w : World) (b o : Nat) (l : List Value) (hl : l.length = 3) (h1 : oneB l = true) (h : w.there b o 3) : (setK ⟨b, o, none⟩ (.agg l.toArray)).run Try.prog w = .ok () (w.setCells b o l) := by
  have hs : l.toArray.size = 3 := by simpa using hl
  have := run_storeVar_mid (P := Try.prog) w b o 23 l.toArray (by rw [hs]; exact h) (by rw [hs]; kernel_rfl) (all_oneCell_toArray (oneB_all h1))
  rw [List.toList_toArray] at this
  exact this
@[go_sem] theorem run_setK (w : World) (b o : Nat) (x : Ky) (h : w.there b o 3) : (setK ⟨b, o, none⟩ (vK x)).run Try.prog w = .ok () (w.setCells b o (cK x)) := run_setK' w b o (cK x) rfl rfl h

def setI (a : Addr) (x : Value) : Sem Unit := storeVar 27 a x
@[go_sem ↓] theorem to_setI (a : Addr) (x : Value) : storeVar 27 a x = setI a x := rfl
theorem run_setI' (w : World) (b o : Nat) (l : List Value) (hl : l.length = 11) (h1 : oneB l = true) (h : w.there b o 11) : (setI ⟨b, o, none⟩ (.agg l.toArray)).run Try.prog w = .ok () (w.setCells b o l) := by
  have hs : l.toArray.size = 11 := by simpa using hl
  have := run_storeVar_mid (P := Try.prog) w b o 27 l.toArray (by rw [hs]; exact h) (by rw [hs]; kernel_rfl) (all_oneCell_toArray (oneB_all h1))
  rw [List.toList_toArray] at this
  exact this
@[go_sem] theorem run_setI (w : World) (b o : Nat) (x : It) (h : w.there b o 11) : (setI ⟨b, o, none⟩ (vI x)).run Try.prog w = .ok () (w.setCells b o (cI x)) := run_setI' w b o (cI x) rfl rfl h

/-! Building. -/
def mkK (x : Array (Nat × Value)) : Sem Value := Instr.build 23 x
@[go_sem ↓] theorem to_mkK (x : Array (Nat × Value)) : Instr.build 23 x = mkK x := rfl
@[go_sem] theorem build_K1 (w : World) (l : List UInt8) : (mkK #[(0, .string ⟨l.toArray⟩)]).run Try.prog w = .ok (vK ⟨l, [], []⟩) w := by unfold mkK; kernel_rfl
@[go_sem] theorem build_K3 (w : World) (l m n : List UInt8) : (mkK #[(0, .string ⟨l.toArray⟩), (1, .string ⟨m.toArray⟩), (2, .string ⟨n.toArray⟩)]).run Try.prog w = .ok (vK ⟨l, m, n⟩) w := by unfold mkK; kernel_rfl
def mkI (x : Array (Nat × Value)) : Sem Value := Instr.build 27 x
@[go_sem ↓] theorem to_mkI (x : Array (Nat × Value)) : Instr.build 27 x = mkI x := rfl
@[go_sem] theorem build_noneI (w : World) (k : Ky) : (mkI #[(0, vK k)]).run Try.prog w = .ok (vI (noneI k)) w := by unfold mkI; kernel_rfl
@[go_sem] theorem build_it (w : World) (k : Ky) (c : Ck) : (mkI #[(0, vK k), (1, vCk c)]).run Try.prog w = .ok (vI ⟨k, c⟩) w := by unfold mkI; kernel_rfl
@[go_sem] theorem build_zero (w : World) : (mkI #[]).run Try.prog w = .ok (vI (noneI k0)) w := by unfold mkI; kernel_rfl
/-! Comparing. -/
theorem ky_ext {a b : Ky} (h1 : a.n = b.n) (h2 : a.d = b.d) (h3 : a.p = b.p) : a = b := by cases a; cases b; simp_all
theorem ck_ext {a b : Ck} (h1 : a.v = b.v) (h2 : a.ho = b.ho) (h3 : a.se = b.se) (h4 : a.ht = b.ht) (h5 : a.pe = b.pe) (h6 : a.ex = b.ex) (h7 : a.cr = b.cr) (h8 : a.ac = b.ac) : a = b := by cases a; cases b; simp_all
theorem it_ext {a b : It} (h1 : a.k = b.k) (h2 : a.c = b.c) : a = b := by cases a; cases b; simp_all
theorem ch_ext {a b : Ch} (h0 : a.kd = b.kd) (h1 : a.o = b.o) (h2 : a.n = b.n) : a = b := by cases a; cases b; simp_all
theorem beq_dec (a b : List UInt8) : (a == b) = decide (a = b) := by rw [Bool.eq_iff_iff]; simp

@[go_sem] theorem Try.eqgK : Try.prog.eqGuardType Try.prog.depth 23 = false := by kernel_rfl
theorem Try.stK : Try.prog.stoodInHeld 23 = false := by kernel_rfl
theorem Try.unnK : Try.prog.underlying 23 = some (.struct (Try.prog.fieldsOf 23)) := by kernel_rfl
theorem Try.flsK : (Try.prog.fieldsOf 23).toList.map (fun f => (f.name, f.type, f.offset)) = [("Name", 9, 0), ("Domain", 9, 1), ("Path", 9, 2)] := by kernel_rfl
theorem Try.eqdK (W : World) (d : Nat) (a b : Ky) : (Op.equalIn (d + 2) 23 (vK a) (vK b)).run Try.prog W = .ok (decide (a = b)) W := by
  have p0 : ∀ (W : World) (a : Ky), (part 9 (cK a).toArray 0).run Try.prog W = .ok (.string (S a.n)) W := fun W a => by kernel_rfl
  have q0 : ∀ (W : World), (Op.equalIn (d + 1) 9 (.string (S a.n)) (.string (S b.n))).run Try.prog W = .ok (decide (a.n = b.n)) W := fun W => (run_equalIn_string W (d + 0) 9 _ _ (by kernel_rfl)).trans (by rw [S_toList, S_toList]; congr 1; exact beq_dec _ _)
  have p1 : ∀ (W : World) (a : Ky), (part 9 (cK a).toArray 1).run Try.prog W = .ok (.string (S a.d)) W := fun W a => by kernel_rfl
  have q1 : ∀ (W : World), (Op.equalIn (d + 1) 9 (.string (S a.d)) (.string (S b.d))).run Try.prog W = .ok (decide (a.d = b.d)) W := fun W => (run_equalIn_string W (d + 0) 9 _ _ (by kernel_rfl)).trans (by rw [S_toList, S_toList]; congr 1; exact beq_dec _ _)
  have p2 : ∀ (W : World) (a : Ky), (part 9 (cK a).toArray 2).run Try.prog W = .ok (.string (S a.p)) W := fun W a => by kernel_rfl
  have q2 : ∀ (W : World), (Op.equalIn (d + 1) 9 (.string (S a.p)) (.string (S b.p))).run Try.prog W = .ok (decide (a.p = b.p)) W := fun W => (run_equalIn_string W (d + 0) 9 _ _ (by kernel_rfl)).trans (by rw [S_toList, S_toList]; congr 1; exact beq_dec _ _)
  rw [run_equalIn_struct W (d + 1) 23 _ _ Try.unnK Try.stK]
  have h := Try.flsK
  rcases hl : (Try.prog.fieldsOf 23).toList with _ | ⟨f0, _ | ⟨f1, _ | ⟨f2, _ | ⟨f3, r⟩⟩⟩⟩
  · rw [hl] at h; simp at h
  · rw [hl] at h; simp at h
  · rw [hl] at h; simp at h
  · rw [hl] at h
    simp only [List.map_cons, List.map_nil, List.cons.injEq, Prod.mk.injEq] at h
    obtain ⟨⟨h0a, h0b, h0c⟩, ⟨h1a, h1b, h1c⟩, ⟨h2a, h2b, h2c⟩, _⟩ := h
    simp [Op.eqFields, h0a, h0b, h0c, h1a, h1b, h1c, h2a, h2b, h2c, p0, q0, p1, q1, p2, q2]
    by_cases hab : a = b
    · subst hab; simp
    · rw [decide_eq_false hab]
      repeat' split
      all_goals first
        | rfl
        | exact absurd (ky_ext (by assumption) (by assumption) (by assumption) ) hab
  · rw [hl] at h; simp at h
@[go_sem] theorem Try.eqtK (W : World) (a b : Ky) : (Op.equalIn 10000 23 (vK a) (vK b)).run Try.prog W = .ok (decide (a = b)) W := Try.eqdK W 9998 a b

@[go_sem] theorem Try.eqgCk : Try.prog.eqGuardType Try.prog.depth 25 = false := by kernel_rfl
theorem Try.stCk : Try.prog.stoodInHeld 25 = false := by kernel_rfl
theorem Try.unnCk : Try.prog.underlying 25 = some (.struct (Try.prog.fieldsOf 25)) := by kernel_rfl
theorem Try.flsCk : (Try.prog.fieldsOf 25).toList.map (fun f => (f.name, f.type, f.offset)) = [("Value", 9, 0), ("HostOnly", 4, 1), ("Secure", 4, 2), ("HttpOnly", 4, 3), ("Persistent", 4, 4), ("Expiry", 3, 5), ("Creation", 3, 6), ("Access", 3, 7)] := by kernel_rfl
theorem Try.eqdCk (W : World) (d : Nat) (a b : Ck) : (Op.equalIn (d + 2) 25 (vCk a) (vCk b)).run Try.prog W = .ok (decide (a = b)) W := by
  have p0 : ∀ (W : World) (a : Ck), (part 9 (cCk a).toArray 0).run Try.prog W = .ok (.string (S a.v)) W := fun W a => by kernel_rfl
  have q0 : ∀ (W : World), (Op.equalIn (d + 1) 9 (.string (S a.v)) (.string (S b.v))).run Try.prog W = .ok (decide (a.v = b.v)) W := fun W => (run_equalIn_string W (d + 0) 9 _ _ (by kernel_rfl)).trans (by rw [S_toList, S_toList]; congr 1; exact beq_dec _ _)
  have p1 : ∀ (W : World) (a : Ck), (part 4 (cCk a).toArray 1).run Try.prog W = .ok (.bool a.ho) W := fun W a => by kernel_rfl
  have q1 : ∀ (W : World), (Op.equalIn (d + 1) 4 (.bool a.ho) (.bool b.ho)).run Try.prog W = .ok (decide (a.ho = b.ho)) W := fun W => run_equalIn_bool' W (d + 0) 4 _ _ (by kernel_rfl)
  have p2 : ∀ (W : World) (a : Ck), (part 4 (cCk a).toArray 2).run Try.prog W = .ok (.bool a.se) W := fun W a => by kernel_rfl
  have q2 : ∀ (W : World), (Op.equalIn (d + 1) 4 (.bool a.se) (.bool b.se)).run Try.prog W = .ok (decide (a.se = b.se)) W := fun W => run_equalIn_bool' W (d + 0) 4 _ _ (by kernel_rfl)
  have p3 : ∀ (W : World) (a : Ck), (part 4 (cCk a).toArray 3).run Try.prog W = .ok (.bool a.ht) W := fun W a => by kernel_rfl
  have q3 : ∀ (W : World), (Op.equalIn (d + 1) 4 (.bool a.ht) (.bool b.ht)).run Try.prog W = .ok (decide (a.ht = b.ht)) W := fun W => run_equalIn_bool' W (d + 0) 4 _ _ (by kernel_rfl)
  have p4 : ∀ (W : World) (a : Ck), (part 4 (cCk a).toArray 4).run Try.prog W = .ok (.bool a.pe) W := fun W a => by kernel_rfl
  have q4 : ∀ (W : World), (Op.equalIn (d + 1) 4 (.bool a.pe) (.bool b.pe)).run Try.prog W = .ok (decide (a.pe = b.pe)) W := fun W => run_equalIn_bool' W (d + 0) 4 _ _ (by kernel_rfl)
  have p5 : ∀ (W : World) (a : Ck), (part 3 (cCk a).toArray 5).run Try.prog W = .ok (.int .i64 a.ex) W := fun W a => by kernel_rfl
  have q5 : ∀ (W : World), (Op.equalIn (d + 1) 3 (.int .i64 a.ex) (.int .i64 b.ex)).run Try.prog W = .ok (decide (a.ex = b.ex)) W := fun W => run_equalIn_int W (d + 0) 3 .i64 .i64 _ _ (by kernel_rfl)
  have p6 : ∀ (W : World) (a : Ck), (part 3 (cCk a).toArray 6).run Try.prog W = .ok (.int .i64 a.cr) W := fun W a => by kernel_rfl
  have q6 : ∀ (W : World), (Op.equalIn (d + 1) 3 (.int .i64 a.cr) (.int .i64 b.cr)).run Try.prog W = .ok (decide (a.cr = b.cr)) W := fun W => run_equalIn_int W (d + 0) 3 .i64 .i64 _ _ (by kernel_rfl)
  have p7 : ∀ (W : World) (a : Ck), (part 3 (cCk a).toArray 7).run Try.prog W = .ok (.int .i64 a.ac) W := fun W a => by kernel_rfl
  have q7 : ∀ (W : World), (Op.equalIn (d + 1) 3 (.int .i64 a.ac) (.int .i64 b.ac)).run Try.prog W = .ok (decide (a.ac = b.ac)) W := fun W => run_equalIn_int W (d + 0) 3 .i64 .i64 _ _ (by kernel_rfl)
  rw [run_equalIn_struct W (d + 1) 25 _ _ Try.unnCk Try.stCk]
  have h := Try.flsCk
  rcases hl : (Try.prog.fieldsOf 25).toList with _ | ⟨f0, _ | ⟨f1, _ | ⟨f2, _ | ⟨f3, _ | ⟨f4, _ | ⟨f5, _ | ⟨f6, _ | ⟨f7, _ | ⟨f8, r⟩⟩⟩⟩⟩⟩⟩⟩⟩
  · rw [hl] at h; simp at h
  · rw [hl] at h; simp at h
  · rw [hl] at h; simp at h
  · rw [hl] at h; simp at h
  · rw [hl] at h; simp at h
  · rw [hl] at h; simp at h
  · rw [hl] at h; simp at h
  · rw [hl] at h; simp at h
  · rw [hl] at h
    simp only [List.map_cons, List.map_nil, List.cons.injEq, Prod.mk.injEq] at h
    obtain ⟨⟨h0a, h0b, h0c⟩, ⟨h1a, h1b, h1c⟩, ⟨h2a, h2b, h2c⟩, ⟨h3a, h3b, h3c⟩, ⟨h4a, h4b, h4c⟩, ⟨h5a, h5b, h5c⟩, ⟨h6a, h6b, h6c⟩, ⟨h7a, h7b, h7c⟩, _⟩ := h
    simp [Op.eqFields, h0a, h0b, h0c, h1a, h1b, h1c, h2a, h2b, h2c, h3a, h3b, h3c, h4a, h4b, h4c, h5a, h5b, h5c, h6a, h6b, h6c, h7a, h7b, h7c, p0, q0, p1, q1, p2, q2, p3, q3, p4, q4, p5, q5, p6, q6, p7, q7]
    by_cases hab : a = b
    · subst hab; simp
    · rw [decide_eq_false hab]
      repeat' split
      all_goals first
        | rfl
        | exact absurd (ck_ext (by assumption) (by assumption) (by assumption) (by assumption) (by assumption) (by assumption) (by assumption) (by assumption) ) hab
  · rw [hl] at h; simp at h
@[go_sem] theorem Try.eqtCk (W : World) (a b : Ck) : (Op.equalIn 10000 25 (vCk a) (vCk b)).run Try.prog W = .ok (decide (a = b)) W := Try.eqdCk W 9998 a b

@[go_sem] theorem Try.eqgI : Try.prog.eqGuardType Try.prog.depth 27 = false := by kernel_rfl
theorem Try.stI : Try.prog.stoodInHeld 27 = false := by kernel_rfl
theorem Try.unnI : Try.prog.underlying 27 = some (.struct (Try.prog.fieldsOf 27)) := by kernel_rfl
theorem Try.flsI : (Try.prog.fieldsOf 27).toList.map (fun f => (f.name, f.type, f.offset)) = [("Key", 23, 0), ("Cookie", 25, 3)] := by kernel_rfl
theorem Try.eqdI (W : World) (d : Nat) (a b : It) : (Op.equalIn (d + 3) 27 (vI a) (vI b)).run Try.prog W = .ok (decide (a = b)) W := by
  have p0 : ∀ (W : World) (a : It), (part 23 (cI a).toArray 0).run Try.prog W = .ok (vK a.k) W := fun W a => by kernel_rfl
  have q0 : ∀ (W : World), (Op.equalIn (d + 2) 23 (vK a.k) (vK b.k)).run Try.prog W = .ok (decide (a.k = b.k)) W := fun W => Try.eqdK W (d + 0) _ _
  have p1 : ∀ (W : World) (a : It), (part 25 (cI a).toArray 3).run Try.prog W = .ok (vCk a.c) W := fun W a => by kernel_rfl
  have q1 : ∀ (W : World), (Op.equalIn (d + 2) 25 (vCk a.c) (vCk b.c)).run Try.prog W = .ok (decide (a.c = b.c)) W := fun W => Try.eqdCk W (d + 0) _ _
  rw [run_equalIn_struct W (d + 2) 27 _ _ Try.unnI Try.stI]
  have h := Try.flsI
  rcases hl : (Try.prog.fieldsOf 27).toList with _ | ⟨f0, _ | ⟨f1, _ | ⟨f2, r⟩⟩⟩
  · rw [hl] at h; simp at h
  · rw [hl] at h; simp at h
  · rw [hl] at h
    simp only [List.map_cons, List.map_nil, List.cons.injEq, Prod.mk.injEq] at h
    obtain ⟨⟨h0a, h0b, h0c⟩, ⟨h1a, h1b, h1c⟩, _⟩ := h
    simp [Op.eqFields, h0a, h0b, h0c, h1a, h1b, h1c, p0, q0, p1, q1]
    by_cases hab : a = b
    · subst hab; simp
    · rw [decide_eq_false hab]
      repeat' split
      all_goals first
        | rfl
        | exact absurd (it_ext (by assumption) (by assumption) ) hab
  · rw [hl] at h; simp at h
@[go_sem] theorem Try.eqtI (W : World) (a b : It) : (Op.equalIn 10000 27 (vI a) (vI b)).run Try.prog W = .ok (decide (a = b)) W := Try.eqdI W 9997 a b

def eqK (x y : Value) : Sem Value := binOp .eql 23 x y
def neK (x y : Value) : Sem Value := binOp .neq 23 x y
@[go_sem ↓] theorem to_eqK (x y : Value) : binOp .eql 23 x y = eqK x y := rfl
@[go_sem ↓] theorem to_neK (x y : Value) : binOp .neq 23 x y = neK x y := rfl
@[go_sem] theorem run_eqK (a b : Ky) (w : World) : (eqK (vK a) (vK b)).run Try.prog w = .ok (.bool (decide (a = b))) w := by
  simp only [eqK, binOp]
  simp [Op.equal, Op.maxDepth, Try.eqtK]
@[go_sem] theorem run_neK (a b : Ky) (w : World) : (neK (vK a) (vK b)).run Try.prog w = .ok (.bool (!decide (a = b))) w := by
  simp only [neK, binOp]
  simp [Op.equal, Op.maxDepth, Try.eqtK]

def eqI (x y : Value) : Sem Value := binOp .eql 27 x y
def neI (x y : Value) : Sem Value := binOp .neq 27 x y
@[go_sem ↓] theorem to_eqI (x y : Value) : binOp .eql 27 x y = eqI x y := rfl
@[go_sem ↓] theorem to_neI (x y : Value) : binOp .neq 27 x y = neI x y := rfl
@[go_sem] theorem run_eqI (a b : It) (w : World) : (eqI (vI a) (vI b)).run Try.prog w = .ok (.bool (decide (a = b))) w := by
  simp only [eqI, binOp]
  simp [Op.equal, Op.maxDepth, Try.eqtI]
@[go_sem] theorem run_neI (a b : It) (w : World) : (neI (vI a) (vI b)).run Try.prog w = .ok (.bool (!decide (a = b))) w := by
  simp only [neI, binOp]
  simp [Op.equal, Op.maxDepth, Try.eqtI]

def mkSlI (n : Nat) (x : Array (Nat × Value)) : Sem Value := Instr.buildSlice 29 n x
@[go_sem ↓] theorem to_mkSlI (n : Nat) (x : Array (Nat × Value)) : Instr.buildSlice 29 n x = mkSlI n x := rfl
@[go_sem] theorem run_mkSlI0 (w : World) : (mkSlI 0 #[]).run Try.prog w = .ok (.slice (some ⟨w.heap.size, 0, none⟩) 0 0) (w.alloc (.cells #[] 27)) := by unfold mkSlI; kernel_rfl
@[go_sem] theorem run_mkSlI1 (w : World) (x : It) : (mkSlI 1 #[(0, vI x)]).run Try.prog w = .ok (.slice (some ⟨w.heap.size, 0, none⟩) 1 1) (w.alloc (.cells (cI x).toArray 27)) := by unfold mkSlI; kernel_rfl
@[go_sem] theorem run_mkSlI2 (w : World) (x y : It) : (mkSlI 2 #[(0, vI x), (1, vI y)]).run Try.prog w = .ok (.slice (some ⟨w.heap.size, 0, none⟩) 2 2) (w.alloc (.cells (cI x ++ cI y).toArray 27)) := by unfold mkSlI; kernel_rfl

def slI (x : Value) (lo hi mx : Option Value) : Sem Value := Instr.sliceAt 29 x lo hi mx
@[go_sem ↓] theorem to_slI (x : Value) (lo hi mx : Option Value) : Instr.sliceAt 29 x lo hi mx = slI x lo hi mx := rfl
@[go_sem] theorem run_slI_cut (w : World) (A : Option Addr) (n c : Nat) (l : Int) (h0 : 0 ≤ l) (h1 : l.toNat ≤ n) : (slI (.slice A n c) (some (.int .i64 l)) none none).run Try.prog w = .ok (.slice (cutA 11 A c l.toNat) (n - l.toNat) (c - l.toNat)) w :=
  run_cut w 29 27 11 (by kernel_rfl) (by kernel_rfl) A n c l h0 (by omega)
@[go_sem] theorem run_slI_upto (w : World) (A : Option Addr) (n c : Nat) (l : Int) (h0 : 0 ≤ l) (h1 : l.toNat ≤ c) : (slI (.slice A n c) none (some (.int .i64 l)) none).run Try.prog w = .ok (.slice A l.toNat c) w :=
  run_upto w 29 27 11 (by kernel_rfl) (by kernel_rfl) A n c l h0 (by omega)

end Go.Proofs.Ytgfoaopfdpclhaa
