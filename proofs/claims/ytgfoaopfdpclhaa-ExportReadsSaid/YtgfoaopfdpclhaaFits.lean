/-
  The walks: is a cookie over; does an item go with a request?
-/
import Derived.Test.YtgfoaopfdpclhaaHost5
import Derived.Test.YtgfoaopfdpclhaaMatchO
import Derived.Test.YtgfoaopfdpclhaaRq
import Derived.Deep.DeepCutAuto
namespace Go.Proofs.Ytgfoaopfdpclhaa
open Go.RowKit
set_option linter.unusedVariables false

def overB (c : Ck) (now : Int) : Bool := c.pe && decide (c.ex ≤ now)
/-- Does an item go with a request at a time? -/
def fitsR (x : It) (r : Rq) (now : Int) : Bool := (r.h == x.k.d || (!x.c.ho && matchB r.h x.k.d)) && (!overB x.c now && (fitB r.p x.k.p && ((!x.c.se || r.s) && (!x.c.ht || !r.c))))
@[simp, go_sem] theorem cCk_0 (k : Ck) : (cCk k)[0]? = some (.string (S k.v)) := rfl
@[simp, go_sem] theorem cCk_1 (k : Ck) : (cCk k)[1]? = some (.bool k.ho) := rfl
@[simp, go_sem] theorem cCk_2 (k : Ck) : (cCk k)[2]? = some (.bool k.se) := rfl
@[simp, go_sem] theorem cCk_3 (k : Ck) : (cCk k)[3]? = some (.bool k.ht) := rfl
@[simp, go_sem] theorem cCk_4 (k : Ck) : (cCk k)[4]? = some (.bool k.pe) := rfl
@[simp, go_sem] theorem cCk_5 (k : Ck) : (cCk k)[5]? = some (.int .i64 k.ex) := rfl
@[simp, go_sem] theorem cCk_g0 (k : Ck) (h : 0 < (cCk k).length) : (cCk k)[0] = .string (S k.v) := rfl
@[simp, go_sem] theorem cCk_g1 (k : Ck) (h : 1 < (cCk k).length) : (cCk k)[1] = .bool k.ho := rfl
@[simp, go_sem] theorem cCk_g2 (k : Ck) (h : 2 < (cCk k).length) : (cCk k)[2] = .bool k.se := rfl
@[simp, go_sem] theorem cCk_g3 (k : Ck) (h : 3 < (cCk k).length) : (cCk k)[3] = .bool k.ht := rfl
@[simp, go_sem] theorem cCk_g4 (k : Ck) (h : 4 < (cCk k).length) : (cCk k)[4] = .bool k.pe := rfl
@[simp, go_sem] theorem cCk_g5 (k : Ck) (h : 5 < (cCk k).length) : (cCk k)[5] = .int .i64 k.ex := rfl
@[simp, go_sem] theorem cCk_g6 (k : Ck) (h : 6 < (cCk k).length) : (cCk k)[6] = .int .i64 k.cr := rfl
@[simp, go_sem] theorem cCk_g7 (k : Ck) (h : 7 < (cCk k).length) : (cCk k)[7] = .int .i64 k.ac := rfl
noncomputable def ckAt (w : World) (b o : Nat) : Option Ck := rdAt cCk w b o
theorem ckAt_of {w : World} {b o : Nat} {k : Ck} (h : w.rangeAt b o (cCk k)) : ckAt w b o = some k := rdAt_of (fun _ _ => cCk_inj) (fun _ _ => rfl) h
theorem ckAt_it {w : World} {b o : Nat} {x : It} (h : itAt w b o = some x) : ckAt w b (o + 3) = some x.c := ckAt_of (range_part (l := cK x.k) (m := cCk x.c) (r := []) (by rw [List.append_nil]; exact rdAt_range (f := cI) h))
@[go_sem] theorem ckAt_drew (w : World) (b o : Nat) : ckAt w.drew b o = ckAt w b o := rdAt_drew _ _ _ _
@[go_sem] theorem ckAt_alloc (w : World) (ob : Obj) (b o : Nat) (h : b < w.heap.size) : ckAt (w.alloc ob) b o = ckAt w b o := rdAt_alloc _ _ _ _ _ h
@[go_sem] theorem ckAt_newI (w : World) (k : It) (t g : Nat) (hg : w.heap.size = g) : ckAt (w.alloc (.cells (cI k).toArray t)) g 3 = some k.c := by
  have := ckAt_it (itAt_new w k t g hg)
  exact this
section
variable (w : World)
def loadCk (a : Addr) : Sem Value := loadVar 25 a
def stuckCk (a : Addr) : Sem Value := loadVar 25 a
@[go_sem ↓] theorem to_loadCk (a : Addr) : loadVar 25 a = loadCk a := rfl
@[go_sem] theorem run_loadCk (b o : Nat) : (loadCk ⟨b, o, none⟩).run Try.prog w = match ckAt w b o with
    | some k => .ok (vCk k) w
    | none => (stuckCk ⟨b, o, none⟩).run Try.prog w := by
  cases h : ckAt w b o with
  | none => rfl
  | some k =>
    have hu : ∃ d, Try.prog.underlying 25 = some d ∧ d.isRow = true := ⟨.struct (Try.prog.fieldsOf 25), by kernel_rfl, rfl⟩
    obtain ⟨d, hd, hr⟩ := hu
    exact run_loadVar_mid w b o 25 (cCk k) d (rdAt_range h) hd hr (by kernel_rfl)
end
theorem ck_cells {w : World} {b o : Nat} {c : Ck} (h : ckAt w b o = some c) : w.cell? ⟨b, o + 1, none⟩ = some (.bool c.ho) ∧ w.cell? ⟨b, o + 2, none⟩ = some (.bool c.se) ∧ w.cell? ⟨b, o + 3, none⟩ = some (.bool c.ht) ∧ w.cell? ⟨b, o + 4, none⟩ = some (.bool c.pe) ∧ w.cell? ⟨b, o + 5, none⟩ = some (.int .i64 c.ex) :=
  have hr : w.rangeAt b o (cCk c) := rdAt_range (f := cCk) h
  ⟨hr 1 _ rfl, hr 2 _ rfl, hr 3 _ rfl, hr 4 _ rfl, hr 5 _ rfl⟩
def setCk (a : Addr) (x : Value) : Sem Unit := storeVar 25 a x
@[go_sem ↓] theorem to_setCk (a : Addr) (x : Value) : storeVar 25 a x = setCk a x := rfl
theorem run_setCk' (w : World) (b o : Nat) (l : List Value) (hl : l.length = 8) (h1 : oneB l = true) (h : w.there b o 8) : (setCk ⟨b, o, none⟩ (.agg l.toArray)).run Try.prog w = .ok () (w.setCells b o l) := by
  have hs : l.toArray.size = 8 := by simpa using hl
  have := run_storeVar_mid (P := Try.prog) w b o 25 l.toArray (by rw [hs]; exact h) (by rw [hs]; kernel_rfl) (all_oneCell_toArray (oneB_all h1))
  rw [List.toList_toArray] at this
  exact this
@[go_sem] theorem run_setCk (w : World) (b o : Nat) (x : Ck) (h : w.there b o 8) : (setCk ⟨b, o, none⟩ (vCk x)).run Try.prog w = .ok () (w.setCells b o (cCk x)) := run_setCk' w b o (cCk x) rfl rfl h

def nearB (x : It) (r : Rq) : Bool := r.h == x.k.d || (!x.c.ho && matchB r.h x.k.d)
end Go.Proofs.Ytgfoaopfdpclhaa
