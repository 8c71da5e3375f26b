/-
  Keys, cookies, items: their cells, how they are read, built and compared.
-/
import Derived.Test.YtgfoaopfdpclhaaRows2
import Derived.Deep.MidRow
import Derived.Laws.StructEq
namespace Go.Proofs.Ytgfoaopfdpclhaa
open Go.RowKit
set_option linter.unusedVariables false

structure Ky where
  n : List UInt8
  d : List UInt8
  p : List UInt8
deriving DecidableEq
structure Ck where
  v : List UInt8
  ho : Bool
  se : Bool
  ht : Bool
  pe : Bool
  ex : Int
  cr : Int
  ac : Int
deriving DecidableEq
structure It where
  k : Ky
  c : Ck
deriving DecidableEq
def cK (k : Ky) : List Value := [strV k.n, strV k.d, strV k.p]
def cCk (c : Ck) : List Value := [strV c.v, .bool c.ho, .bool c.se, .bool c.ht, .bool c.pe, .int .i64 c.ex, .int .i64 c.cr, .int .i64 c.ac]
def cI (x : It) : List Value := cK x.k ++ cCk x.c
abbrev vK (k : Ky) : Value := .agg (cK k).toArray
abbrev vCk (c : Ck) : Value := .agg (cCk c).toArray
abbrev vI (x : It) : Value := .agg (cI x).toArray
def k0 : Ky := ⟨[], [], []⟩
def ck0 : Ck := ⟨[], false, false, false, false, 0, 0, 0⟩
/-- No item of a key. -/
def noneI (k : Ky) : It := ⟨k, ck0⟩
@[simp, go_sem] theorem cK_len (k : Ky) : (cK k).length = 3 := Eq.trans rfl rfl
@[simp, go_sem] theorem cCk_len (k : Ck) : (cCk k).length = 8 := Eq.trans rfl rfl
@[simp, go_sem] theorem cI_len (k : It) : (cI k).length = 11 := Eq.trans rfl rfl
@[simp, go_sem] theorem cK_0 (k : Ky) : (cK k)[0]? = some (.string (S k.n)) := rfl
@[simp, go_sem] theorem cK_1 (k : Ky) : (cK k)[1]? = some (.string (S k.d)) := rfl
@[simp, go_sem] theorem cK_2 (k : Ky) : (cK k)[2]? = some (.string (S k.p)) := rfl
@[simp, go_sem] theorem cI_0 (k : It) : (cI k)[0]? = some (.string (S k.k.n)) := rfl
@[simp, go_sem] theorem cI_1 (k : It) : (cI k)[1]? = some (.string (S k.k.d)) := rfl
@[simp, go_sem] theorem cI_2 (k : It) : (cI k)[2]? = some (.string (S k.k.p)) := rfl
@[simp, go_sem] theorem cI_3 (k : It) : (cI k)[3]? = some (.string (S k.c.v)) := rfl
@[simp, go_sem] theorem cK_g0 (k : Ky) (h : 0 < (cK k).length) : (cK k)[0] = .string (S k.n) := rfl
@[simp, go_sem] theorem cK_g1 (k : Ky) (h : 1 < (cK k).length) : (cK k)[1] = .string (S k.d) := rfl
@[simp, go_sem] theorem cK_g2 (k : Ky) (h : 2 < (cK k).length) : (cK k)[2] = .string (S k.p) := rfl
@[simp, go_sem] theorem cI_g0 (k : It) (h : 0 < (cI k).length) : (cI k)[0] = .string (S k.k.n) := rfl
@[simp, go_sem] theorem cI_g1 (k : It) (h : 1 < (cI k).length) : (cI k)[1] = .string (S k.k.d) := rfl
@[simp, go_sem] theorem cI_g2 (k : It) (h : 2 < (cI k).length) : (cI k)[2] = .string (S k.k.p) := rfl
@[simp, go_sem] theorem cI_g3 (k : It) (h : 3 < (cI k).length) : (cI k)[3] = .string (S k.c.v) := rfl
@[simp, go_sem] theorem cI_g4 (k : It) (h : 4 < (cI k).length) : (cI k)[4] = .bool k.c.ho := rfl
@[simp, go_sem] theorem cI_g5 (k : It) (h : 5 < (cI k).length) : (cI k)[5] = .bool k.c.se := rfl
@[simp, go_sem] theorem cI_g6 (k : It) (h : 6 < (cI k).length) : (cI k)[6] = .bool k.c.ht := rfl
@[simp, go_sem] theorem cI_g7 (k : It) (h : 7 < (cI k).length) : (cI k)[7] = .bool k.c.pe := rfl
@[simp, go_sem] theorem cI_g8 (k : It) (h : 8 < (cI k).length) : (cI k)[8] = .int .i64 k.c.ex := rfl
@[simp, go_sem] theorem cI_g9 (k : It) (h : 9 < (cI k).length) : (cI k)[9] = .int .i64 k.c.cr := rfl
@[simp, go_sem] theorem cI_g10 (k : It) (h : 10 < (cI k).length) : (cI k)[10] = .int .i64 k.c.ac := rfl
theorem strV_inj {a b : List UInt8} (h : strV a = strV b) : a = b := by
  unfold strV at h
  injection h with h
  rw [← S_toList a, h, S_toList]
theorem cK_inj {a b : Ky} (h : cK a = cK b) : a = b := by
  cases a; cases b
  simp only [cK, List.cons.injEq, and_true] at h
  obtain ⟨h1, h2, h3⟩ := h
  rw [strV_inj h1, strV_inj h2, strV_inj h3]
theorem cCk_inj {a b : Ck} (h : cCk a = cCk b) : a = b := by
  cases a; cases b
  simp only [cCk, List.cons.injEq, and_true, Value.bool.injEq, Value.int.injEq, true_and] at h
  obtain ⟨h1, h2, h3, h4, h5, h6, h7, h8⟩ := h
  subst h2 h3 h4 h5 h6 h7 h8
  rw [strV_inj h1]
theorem cI_inj {a b : It} (h : cI a = cI b) : a = b := by
  cases a; cases b
  have h := List.append_inj h rfl
  obtain ⟨h1, h2⟩ := h
  have e1 := cK_inj h1
  have e2 := cCk_inj h2
  simp only at e1 e2
  rw [e1, e2]
theorem cK_one (k : Ky) : ∀ u ∈ (cK k).toArray.toList, u.oneCell' = true := by intro u hu; simp [cK] at hu; rcases hu with rfl | rfl | rfl <;> rfl
theorem cI_one (k : It) : ∀ u ∈ (cI k).toArray.toList, u.oneCell' = true := by
  intro u hu; simp [cI, cK, cCk] at hu; rcases hu with rfl | rfl | rfl | rfl | rfl | rfl | rfl | rfl | rfl | rfl | rfl <;> rfl

/-- What lies at a place, read as one of those that f lays in cells. -/
noncomputable def pickOf {α : Type} (p : α → Prop) : Option α := open Classical in if h : ∃ x, p x then some h.choose else none
noncomputable def rdAt {α : Type} (f : α → List Value) (w : World) (b o : Nat) : Option α := pickOf fun x => w.rangeAt b o (f x)
theorem range_inj {w : World} {b o : Nat} {l m : List Value} (hl : l.length = m.length) (h : w.rangeAt b o l) (h' : w.rangeAt b o m) : l = m := by
  refine List.ext_getElem hl fun i h1 h2 => ?_
  have e1 := h i _ (List.getElem?_eq_getElem h1)
  have e2 := h' i _ (List.getElem?_eq_getElem h2)
  rw [e1] at e2
  exact Option.some.inj e2
theorem rdAt_of {α : Type} {f : α → List Value} (hi : ∀ x y, f x = f y → x = y) (hl : ∀ x y, (f x).length = (f y).length) {w : World} {b o : Nat} {x : α} (h : w.rangeAt b o (f x)) : rdAt f w b o = some x := by
  have hex : ∃ x, w.rangeAt b o (f x) := ⟨x, h⟩
  unfold rdAt pickOf
  rw [dif_pos hex]
  exact congrArg some (hi _ _ (range_inj (hl _ _) hex.choose_spec h))
theorem rdAt_range {α : Type} {f : α → List Value} {w : World} {b o : Nat} {x : α} (h : rdAt f w b o = some x) : w.rangeAt b o (f x) := by
  unfold rdAt pickOf at h
  split at h
  · rename_i hex
    have := hex.choose_spec
    rw [Option.some.inj h] at this
    exact this
  · cases h
theorem rdAt_lift {α : Type} {f : α → List Value} {w w' : World} {b o b' o' : Nat} (h : ∀ x, w.rangeAt b o (f x) ↔ w'.rangeAt b' o' (f x)) : rdAt f w' b' o' = rdAt f w b o := by
  unfold rdAt
  rw [funext fun x => propext (h x)]
theorem range_cells {w w' : World} {b : Nat} (h : ∀ o, w'.cell? ⟨b, o, none⟩ = w.cell? ⟨b, o, none⟩) (o : Nat) (l : List Value) : w'.rangeAt b o l ↔ w.rangeAt b o l := by
  unfold World.rangeAt
  simp only [h]
theorem rdAt_cells {α : Type} {f : α → List Value} {w w' : World} {b o : Nat} (h : ∀ o, w'.cell? ⟨b, o, none⟩ = w.cell? ⟨b, o, none⟩) : rdAt f w' b o = rdAt f w b o := rdAt_lift fun x => (range_cells h o (f x)).symm
@[go_sem] theorem rdAt_drew {α : Type} (f : α → List Value) (w : World) (b o : Nat) : rdAt f w.drew b o = rdAt f w b o := rdAt_cells fun o => by simp
@[go_sem] theorem rdAt_alloc {α : Type} (f : α → List Value) (w : World) (ob : Obj) (b o : Nat) (h : b < w.heap.size) : rdAt f (w.alloc ob) b o = rdAt f w b o := rdAt_cells fun o => World.cell?_alloc_lt _ _ _ h
theorem rdAt_below {α : Type} {f : α → List Value} {w w' : World} (hb : Below w.heap.size w w') {b : Nat} (h : b < w.heap.size) (o : Nat) : rdAt f w' b o = rdAt f w b o := rdAt_cells fun o => hb.cell (p := ⟨b, o, none⟩) h
theorem rdAt_kept {α : Type} {f : α → List Value} {w w' : World} (hb : Below w.heap.size w w') {b : Nat} (h : b < w.heap.size) {o : Nat} {x : α} (hx : rdAt f w b o = some x) : rdAt f w' b o = some x := (rdAt_below hb h o).trans hx
theorem range_blk {w : World} {g t : Nat} {fr : Nat × Nat} {l : List Value} (h : w.heap[g]? = some (.cells l.toArray t fr)) : w.rangeAt g 0 l := fun j v hv => by
  rw [Nat.zero_add, cell_of_row w g j _ t fr h]
  simpa using hv
theorem range_part {w : World} {b o : Nat} {l m r : List Value} (h : w.rangeAt b o (l ++ m ++ r)) : w.rangeAt b (o + l.length) m := fun j v hv => by
  rw [Nat.add_assoc]
  refine h (l.length + j) v ?_
  have hj : j < m.length := (List.getElem?_eq_some_iff.1 hv).1
  rw [List.append_assoc, List.getElem?_append_right (by omega), Nat.add_sub_cancel_left, List.getElem?_append_left hj, hv]

/-- The key, the item at a place. -/
noncomputable def kyAt (w : World) (b o : Nat) : Option Ky := rdAt cK w b o
noncomputable def itAt (w : World) (b o : Nat) : Option It := rdAt cI w b o
theorem kyAt_of {w : World} {b o : Nat} {k : Ky} (h : w.rangeAt b o (cK k)) : kyAt w b o = some k := rdAt_of (fun _ _ => cK_inj) (fun _ _ => rfl) h
theorem itAt_of {w : World} {b o : Nat} {k : It} (h : w.rangeAt b o (cI k)) : itAt w b o = some k := rdAt_of (fun _ _ => cI_inj) (fun _ _ => rfl) h
theorem kyAt_it {w : World} {b o : Nat} {x : It} (h : itAt w b o = some x) : kyAt w b o = some x.k := kyAt_of (range_part (l := []) (m := cK x.k) (r := cCk x.c) (show w.rangeAt b o ([] ++ cK x.k ++ cCk x.c) from rdAt_range (f := cI) h))
@[go_sem] theorem kyAt_drew (w : World) (b o : Nat) : kyAt w.drew b o = kyAt w b o := rdAt_drew _ _ _ _
@[go_sem] theorem itAt_drew (w : World) (b o : Nat) : itAt w.drew b o = itAt w b o := rdAt_drew _ _ _ _
@[go_sem] theorem kyAt_alloc (w : World) (ob : Obj) (b o : Nat) (h : b < w.heap.size) : kyAt (w.alloc ob) b o = kyAt w b o := rdAt_alloc _ _ _ _ _ h
@[go_sem] theorem itAt_alloc (w : World) (ob : Obj) (b o : Nat) (h : b < w.heap.size) : itAt (w.alloc ob) b o = itAt w b o := rdAt_alloc _ _ _ _ _ h
@[go_sem] theorem kyAt_new (w : World) (k : Ky) (t g : Nat) (hg : w.heap.size = g) : kyAt (w.alloc (.cells (cK k).toArray t)) g 0 = some k := by
  subst hg; exact kyAt_of (range_blk (heap_alloc_new w _))
@[go_sem] theorem itAt_new (w : World) (k : It) (t g : Nat) (hg : w.heap.size = g) : itAt (w.alloc (.cells (cI k).toArray t)) g 0 = some k := by
  subst hg; exact itAt_of (range_blk (heap_alloc_new w _))
@[go_sem] theorem kyAt_newI (w : World) (k : It) (t g : Nat) (hg : w.heap.size = g) : kyAt (w.alloc (.cells (cI k).toArray t)) g 0 = some k.k := kyAt_it (itAt_new w k t g hg)
theorem ky_cells {w : World} {b o : Nat} {k : Ky} (h : kyAt w b o = some k) : w.cell? ⟨b, o, none⟩ = some (.string (S k.n)) ∧ w.cell? ⟨b, o + 1, none⟩ = some (.string (S k.d)) ∧ w.cell? ⟨b, o + 2, none⟩ = some (.string (S k.p)) :=
  ⟨rdAt_range h 0 _ rfl, rdAt_range h 1 _ rfl, rdAt_range h 2 _ rfl⟩

theorem it_lt {w : World} {b o : Nat} {x : It} (h : itAt w b o = some x) : b < w.heap.size := World.block_lt_of_cell? w _ (ky_cells (kyAt_it h)).1
theorem ky_lt {w : World} {b o : Nat} {x : Ky} (h : kyAt w b o = some x) : b < w.heap.size := World.block_lt_of_cell? w _ (ky_cells h).1
/-- The items of a row. -/
theorem Rd.rows {α : Type} {f : α → List Value} {sz : Nat} (hf : ∀ q, (f q).length = sz) {w : World} {n c : Nat} {A : Option Addr} {l : List α} (hsz : 0 < sz) (h : Rd w sz (.slice A n c) n (l.flatMap f)) : l.length = n := by
  have := h.1
  rw [flat_len f hf] at this
  exact Nat.eq_of_mul_eq_mul_right hsz this
theorem Rd.range {α : Type} {f : α → List Value} {sz : Nat} (hf : ∀ q, (f q).length = sz) {w : World} {n c : Nat} {A : Option Addr} {l : List α} (hsz : 0 < sz) (h : Rd w sz (.slice A n c) n (l.flatMap f)) {k : Nat} (hk : k < l.length) :
    ∃ b off, A = some ⟨b, off, none⟩ ∧ b < w.heap.size ∧ ∀ j (hj : j < l.length), w.rangeAt b (off + j * sz) (f l[j]) := by
  have hl := h.rows hf hsz
  obtain ⟨b, off, hA, hb, hc⟩ := h.at_ (by omega)
  refine ⟨b, off, hA, hb, fun j hj i v hv => ?_⟩
  have hi : i < sz := by have := (List.getElem?_eq_some_iff.1 hv).1; rw [hf] at this; exact this
  have hji : j * sz + i < l.length * sz := by
    have : (j + 1) * sz ≤ l.length * sz := Nat.mul_le_mul_right _ hj
    rw [Nat.add_mul] at this
    omega
  rw [Nat.add_assoc, hc (j * sz + i) (by rw [flat_len f hf]; exact hji), flat_at f hf l hj hi]
  exact hv
theorem Rd.items {w : World} {n c : Nat} {A : Option Addr} {l : List It} (h : Rd w 11 (.slice A n c) n (l.flatMap cI)) {k : Nat} (hk : k < l.length) :
    ∃ b off, A = some ⟨b, off, none⟩ ∧ b < w.heap.size ∧ ∀ j (hj : j < l.length), itAt w b (off + j * 11) = some l[j] ∧ kyAt w b (off + j * 11) = some l[j].k := by
  obtain ⟨b, off, hA, hb, hc⟩ := h.range (sz := 11) (fun q => rfl) (by decide) hk
  exact ⟨b, off, hA, hb, fun j hj => ⟨itAt_of (hc j hj), kyAt_it (itAt_of (hc j hj))⟩⟩

section
variable (w : World)
/-- A key, an item is read whole. -/
def loadK (a : Addr) : Sem Value := loadVar 23 a
def loadI (a : Addr) : Sem Value := loadVar 27 a
def stuckK (a : Addr) : Sem Value := loadVar 23 a
def stuckI (a : Addr) : Sem Value := loadVar 27 a
@[go_sem ↓] theorem to_loadK (a : Addr) : loadVar 23 a = loadK a := rfl
@[go_sem ↓] theorem to_loadI (a : Addr) : loadVar 27 a = loadI a := rfl
@[go_sem] theorem run_loadK (b o : Nat) : (loadK ⟨b, o, none⟩).run Try.prog w = match kyAt w b o with
    | some k => .ok (vK k) w
    | none => (stuckK ⟨b, o, none⟩).run Try.prog w := by
  cases h : kyAt w b o with
  | none => rfl
  | some k =>
    have hu : ∃ d, Try.prog.underlying 23 = some d ∧ d.isRow = true := ⟨.struct (Try.prog.fieldsOf 23), by kernel_rfl, rfl⟩
    obtain ⟨d, hd, hr⟩ := hu
    exact run_loadVar_mid w b o 23 (cK k) d (rdAt_range h) hd hr (by kernel_rfl)
@[go_sem] theorem run_loadI (b o : Nat) : (loadI ⟨b, o, none⟩).run Try.prog w = match itAt w b o with
    | some k => .ok (vI k) w
    | none => (stuckI ⟨b, o, none⟩).run Try.prog w := by
  cases h : itAt w b o with
  | none => rfl
  | some k =>
    have hu : ∃ d, Try.prog.underlying 27 = some d ∧ d.isRow = true := ⟨.struct (Try.prog.fieldsOf 27), by kernel_rfl, rfl⟩
    obtain ⟨d, hd, hr⟩ := hu
    exact run_loadVar_mid w b o 27 (cI k) d (rdAt_range h) hd hr (by kernel_rfl)
end
end Go.Proofs.Ytgfoaopfdpclhaa
