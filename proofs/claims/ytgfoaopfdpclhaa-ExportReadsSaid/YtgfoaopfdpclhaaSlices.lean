/-
  Slices that a call made, and slices that it reads: plain facts on worlds; no function of the program is named here.
-/
import Derived.Test.YtgfoaopfdpclhaaBase
import Derived.Laws.AppendOwn
import Derived.Laws.OwnMore
import Derived.Deep.AppendLies
namespace Go.Proofs.Ytgfoaopfdpclhaa
open Go.RowKit
set_option linter.unusedVariables false

/-- A slice value that reads as the cells xs, each element of sz cells. -/
def Rd (w : World) (sz : Nat) (v : Value) (n : Nat) (xs : List Value) : Prop :=
  xs.length = n * sz ∧ ∃ A c, v = .slice A n c ∧ n ≤ c ∧ c ≤ maxLen ∧ (n = 0 ∨ ∃ b off, A = some ⟨b, off, none⟩ ∧ b < w.heap.size ∧ ∀ j, j < xs.length → w.cell? ⟨b, off + j, none⟩ = xs[j]?)

theorem Rd.of_own {w : World} {base : Nat} {e : TypeId} {sz n : Nat} {v : Value} {xs : List Value} (h : w.ownsRow base e sz v n xs) : Rd w sz v n xs := by
  refine ⟨h.1, ?_⟩
  have hh := h
  rcases h.2 with ⟨rfl, rfl⟩ | ⟨g, cap, cur, rfl, hb, hg, hnc, hcm, hcs, htake⟩
  · exact ⟨none, 0, rfl, Nat.le_refl _, by simp [maxLen], .inl rfl⟩
  · refine ⟨_, cap, rfl, hnc, hcm, .inr ⟨g, 0, rfl, (Array.getElem?_eq_some_iff.1 hg).1, fun j hj => ?_⟩⟩
    rw [Nat.zero_add]
    exact hh.cellAt j (by rw [← h.1]; exact hj)

theorem own_form {w : World} {base : Nat} {e : TypeId} {sz n : Nat} {v : Value} {xs : List Value} (h : w.ownsRow base e sz v n xs) : ∃ A c, v = .slice A n c := by
  rcases h.2 with ⟨rfl, rfl⟩ | ⟨g, cap, cur, rfl, _⟩
  · exact ⟨_, _, rfl⟩
  · exact ⟨_, _, rfl⟩
/-- Where the cells lie, if there is an element. -/
theorem Rd.at_ {w : World} {sz n : Nat} {A : Option Addr} {c : Nat} {xs : List Value} (h : Rd w sz (.slice A n c) n xs) (hn : 0 < n) :
    ∃ b off, A = some ⟨b, off, none⟩ ∧ b < w.heap.size ∧ ∀ j, j < xs.length → w.cell? ⟨b, off + j, none⟩ = xs[j]? := by
  obtain ⟨_, A', c', h2, _, _, h4⟩ := h
  injection h2 with h2 _ _
  subst h2
  rcases h4 with h4 | h4
  · omega
  · exact h4
theorem Rd.cap {w : World} {sz n : Nat} {A : Option Addr} {c : Nat} {xs : List Value} (h : Rd w sz (.slice A n c) n xs) : n ≤ c ∧ c ≤ maxLen := by
  obtain ⟨_, A', c', h2, h3, h3', _⟩ := h
  injection h2 with _ _ h2
  subst h2
  exact ⟨h3, h3'⟩
theorem Rd.below {w w' : World} {sz n : Nat} {v : Value} {xs : List Value} (h : Rd w sz v n xs) (hb : Below w.heap.size w w') : Rd w' sz v n xs := by
  obtain ⟨h1, A, c, h2, h3, h3', h4⟩ := h
  refine ⟨h1, A, c, h2, h3, h3', ?_⟩
  rcases h4 with h4 | ⟨b, off, hA, hlt, hc⟩
  · exact .inl h4
  · exact .inr ⟨b, off, hA, by have := hb.size; omega, fun j hj => (hb.cell (p := ⟨b, off + j, none⟩) hlt).trans (hc j hj)⟩

theorem own_below {w w' : World} {B : Nat} {e : TypeId} {sz n : Nat} {v : Value} {xs : List Value} (h : w.ownsRow B e sz v n xs) (hb : Below w.heap.size w w') : w'.ownsRow B e sz v n xs :=
  h.kept (row := none) ⟨hb.os, hb.tape, hb.output, hb.size, fun k hk _ => hb.block k hk⟩ (by cases hv : v.ownBlock <;> simp)
/-- Behind a call that leaves the old blocks alone every old cell, and every old mark, reads as before: two rules for the walk. -/
theorem bel_cell {W w1 : World} (hb : Below W.heap.size W w1) : (∀ b o, b < W.heap.size → w1.cell? ⟨b, o, none⟩ = W.cell? ⟨b, o, none⟩) ∧ (∀ b o, b < W.heap.size → w1.frozen? ⟨b, o, none⟩ = W.frozen? ⟨b, o, none⟩) :=
  ⟨fun b o h => hb.cell (p := ⟨b, o, none⟩) h, fun b o h => hb.frozen (p := ⟨b, o, none⟩) h⟩
theorem bel_onto {B : Nat} {a b c : World} (h : Below B a b) (k : Below b.heap.size b c) (hB : B ≤ b.heap.size) : Below B a c := h.trans (k.mono hB)

theorem bel_call {W w w' : World} (hB : Below W.heap.size W w) (hb : Below w.heap.size w w') : Below W.heap.size W w' := bel_onto hB hb hB.size
theorem bel_alloc {W w : World} (hB : Below W.heap.size W w) (o : Obj) : Below W.heap.size W (w.alloc o) := hB.alloc hB.size o

theorem Rd.kept {w w' : World} {sz n : Nat} {v : Value} {xs : List Value} {row : Option Nat} (h : Rd w sz v n xs) (hg : w.grownBy w' row) (hne : ∀ g, v.ownBlock = some g → row ≠ some g) : Rd w' sz v n xs := by
  obtain ⟨h1, A, c, h2, h3, h3', h4⟩ := h
  refine ⟨h1, A, c, h2, h3, h3', ?_⟩
  rcases h4 with h4 | ⟨b, off, hA, hlt, hc⟩
  · exact .inl h4
  · refine .inr ⟨b, off, hA, by have := hg.size; omega, fun j hj => ?_⟩
    rw [← hc j hj]
    exact World.cell?_of_block (hg.block b hlt (fun e => hne b (by rw [h2, hA]; rfl) e.symm))

theorem add_none (b off j : Nat) : (⟨b, off, none⟩ : Addr).add j = ⟨b, off + j, none⟩ := by
  unfold Addr.add; split <;> simp_all

/-- One element more behind a row of the call's own, the element laid in a new block just ahead. -/
theorem wpList_push {P : Program} {W w : World} {ops : Array Oper} {rest : List Oper} {o : Oper} {a : Act} {Q : Exit → Act → World → Prop} (hgd : o.guard = none) (s x : Operand) (t : TypeId)
    (ho : o.op = .call { callee := .builtin .append, args := #[s, x], argTypes := #[t, t] })
    (B : Nat) (e : TypeId) (i : TypeInfo) (z : Value) (size bytes : Nat) (ht : P.underlying t = some (.slice e)) (hi : P.info? e = some i) (hz : i.zero = some z)
    (hsize : i.size = size) (hby : i.bytes = bytes) (hzs : z.cells.size = size) (hsz : 0 < size)
    (v : Value) (n : Nat) (xs : List Value) (hs : a.eval s = v) (hown : w.ownsRow B e size v n xs)
    (cs : Array Value) (g : Nat) (hx : a.eval x = .slice (some ⟨g, 0, none⟩) 1 1) (hgw : w.heap.size = g) (hl : cs.size = size) (h1 : ∀ u ∈ cs.toList, u.oneCell' = true)
    (h63 : n + 1 ≤ maxLen) (hbytes : (n + 1) * bytes ≤ 140737488355328) (hbase : B ≤ w.heap.size) (hbel : Below B W w)
    (h : ∀ v' w', w'.ownsRow B e size v' (n + 1) (xs ++ cs.toList) → w.grownBy w' v.ownBlock → Below B W w' → B ≤ w'.heap.size → wpList P ops Q rest (a.put o.dst v') w') :
    wpList P ops Q (o :: rest) a (w.alloc (.cells cs e)) := by
  subst hgw
  refine wpList_append_own _ hgd s x t ho B e i z size bytes ht hi hz hsize hby hzs hsz v n xs hs (hown.alloc _) ⟨w.heap.size, 0, none⟩ 1 1 cs.toList hx (by simp [hl]) ?_ h1 h63 hbytes (by simp; omega) ?_
  · intro j u hu
    rw [add_none, Nat.zero_add]
    rw [cell_of_row _ w.heap.size j cs e (0, 0) (heap_alloc_new w _)]
    simpa using hu
  · intro v' w' hown' hgrow _
    have hlt := hown.lt
    have hg : w.grownBy w' v.ownBlock := ⟨hgrow.os, hgrow.tape, hgrow.output, by have := hgrow.size; simp at this; omega, fun k hk hne => by
      rw [hgrow.block k (by simp; omega) hne]
      exact Below.heap_alloc w _ k hk⟩
    exact h v' w' hown' hg (hbel.grown hg hbase (fun k hk => (hlt k hk).1)) (by have := hg.size; omega)

@[simp, go_sem] theorem drewN_heap (w : World) (n : Nat) : (w.drewN n).heap = w.heap := rfl

section
variable {P : Program} (w : World)
/-- string(b) where b's cells are the bytes l. -/
theorem run_bytes_S (src dst e : TypeId) (a : Addr) (n cap : Nat) (l : List UInt8) (hn : l.length = n) (hs : P.underlying src = some (.slice e)) (he : P.underlying e = some (.int .u8)) (hd : P.underlying dst = some .string)
    (hc : ∀ j, j < l.length → w.cell? (a.add j) = some (.int .u8 ((l.getD j 0).toNat : Int))) :
    (convert src dst (.slice (some a) n cap)).run P w = .ok (.string (S l)) w := by
  subst hn
  refine run_convert_bytes_back w src dst e a cap l hs he hd (fun j hj => ?_)
  rw [hc j hj, List.getD_eq_getElem?_getD, List.getElem?_eq_getElem hj]
  rfl
/-- string([]byte{x}). -/
@[go_sem] theorem run_one_byte (src dst e : TypeId) (x : Int) (g : Nat) (hs : P.underlying src = some (.slice e)) (he : P.underlying e = some (.int .u8)) (hd : P.underlying dst = some .string) (hg : w.heap.size = g) :
    (convert src dst (.slice (some ⟨g, 0, none⟩) 1 1)).run P (w.alloc (.cells #[.int .u8 x] e)) = .ok (.string (S [UInt8.ofNat x.toNat])) (w.alloc (.cells #[.int .u8 x] e)) := by
  subst hg
  rw [run_convert_bytes_string _ src dst e _ 1 1 hs he hd, run_bytesToString _ _ 1 1 [x]]
  · rfl
  · have := run_loadCells_list (P := P) (w.alloc (.cells #[.int .u8 x] e)) ⟨w.heap.size, 0, none⟩ [.int .u8 x] (fun j v hj => by
      rw [add_none, Nat.zero_add, cell_of_row _ w.heap.size j _ e (0, 0) (heap_alloc_new w _)]
      simpa using hj)
    simpa using this
/-- string([]byte{x, y}). -/
@[go_sem] theorem run_two_bytes (src dst e : TypeId) (x y : Int) (g : Nat) (hs : P.underlying src = some (.slice e)) (he : P.underlying e = some (.int .u8)) (hd : P.underlying dst = some .string) (hg : w.heap.size = g) :
    (convert src dst (.slice (some ⟨g, 0, none⟩) 2 2)).run P (w.alloc (.cells #[.int .u8 x, .int .u8 y] e)) = .ok (.string (S [UInt8.ofNat x.toNat, UInt8.ofNat y.toNat])) (w.alloc (.cells #[.int .u8 x, .int .u8 y] e)) := by
  subst hg
  rw [run_convert_bytes_string _ src dst e _ 2 2 hs he hd, run_bytesToString _ _ 2 2 [x, y]]
  · rfl
  · have := run_loadCells_list (P := P) (w.alloc (.cells #[.int .u8 x, .int .u8 y] e)) ⟨w.heap.size, 0, none⟩ [.int .u8 x, .int .u8 y] (fun j v hj => by
      rw [add_none, Nat.zero_add, cell_of_row _ w.heap.size j _ e (0, 0) (heap_alloc_new w _)]
      simpa using hj)
    simpa using this
end

/-- A block that is known whole. -/
def Blk (w : World) (g : Nat) (t : TypeId) (cs : Array Value) : Prop := w.heap[g]? = some (.cells cs t (0, 0))
theorem Blk.new_ (w : World) (t : TypeId) (cs : Array Value) : Blk (w.alloc (.cells cs t)) w.heap.size t cs := heap_alloc_new w _
theorem Blk.lt {w : World} {g : Nat} {t : TypeId} {cs : Array Value} (h : Blk w g t cs) : g < w.heap.size := (Array.getElem?_eq_some_iff.1 h).1
theorem Blk.below {w w' : World} {g : Nat} {t : TypeId} {cs : Array Value} (h : Blk w g t cs) (hb : Below w.heap.size w w') : Blk w' g t cs := (hb.block g h.lt).trans h
theorem Blk.alloc {w : World} {g : Nat} {t : TypeId} {cs : Array Value} (h : Blk w g t cs) (o : Obj) : Blk (w.alloc o) g t cs := h.below (bel_alloc (Below.refl _ _) o)
theorem Blk.cell {w : World} {g : Nat} {t : TypeId} {cs : Array Value} (h : Blk w g t cs) (i : Nat) : w.cell? ⟨g, i, none⟩ = cs[i]? := cell_of_row w g i cs t (0, 0) h
theorem Blk.free {w : World} {g : Nat} {t : TypeId} {cs : Array Value} (h : Blk w g t cs) (i : Nat) : w.frozen? ⟨g, i, none⟩ = false := by
  unfold World.frozen?
  rw [show w.heap[(⟨g, i, none⟩ : Addr).block]? = _ from h]
  simp
theorem Rd.alloc {w : World} {sz n : Nat} {v : Value} {xs : List Value} (h : Rd w sz v n xs) (o : Obj) : Rd (w.alloc o) sz v n xs := h.below (bel_alloc (Below.refl _ _) o)

/-- A text as a cell. -/
def strV (l : List UInt8) : Value := .string (S l)
theorem strV_one (l : List UInt8) : (strV l).oneCell' = true := rfl
end Go.Proofs.Ytgfoaopfdpclhaa
