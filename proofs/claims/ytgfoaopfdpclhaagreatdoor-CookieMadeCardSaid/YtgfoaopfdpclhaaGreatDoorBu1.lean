/-
  Joined texts: Base Slices Ascii Ascii2.
-/
import Derived.Test.YtgfoaopfdpclhaaGreatDoorRows
import Derived.WalkKit
import Derived.WalkSpells
import Derived.WalkLawsBesides
import Derived.Lib.Strings
import Derived.Lib.Hide
import Derived.Laws.AppendOwn
import Derived.Laws.OwnMore
import Derived.Deep.AppendLies
import Derived.Deep.QuietTactic
import Derived.BigQuiet
namespace Go.Proofs.YtgfoaopfdpclhaaGreatDoor
open Go.RowKit
set_option linter.unusedVariables false
set_option maxRecDepth 100000

/-- A text of bytes, as the model's string. -/
def S (l : List UInt8) : ByteArray := ⟨l.toArray⟩
@[simp, go_sem] theorem S_toList (l : List UInt8) : (S l).toList = l := ByteArray.toList_mk l
theorem size_toList (s : ByteArray) : s.size = s.toList.length := by rw [ByteArray.toList_eq]; exact Lib.size_eq s
@[simp, go_sem] theorem S_size (l : List UInt8) : (S l).size = l.length := by rw [size_toList, S_toList]
theorem S_of (s : ByteArray) : S s.toList = s := by
  unfold S
  rw [ByteArray.toList_eq, Lib.mk_data]
theorem S_lit (l : List UInt8) : (⟨l.toArray⟩ : ByteArray) = S l := rfl
theorem extract_l (s : ByteArray) (a b : Nat) : (s.extract a b).toList = (s.toList.drop a).take (b - a) := by
  rw [Lib.extract_toList, ByteArray.toList_eq]
theorem extract_S (s : ByteArray) (a b : Nat) : s.extract a b = S ((s.toList.drop a).take (b - a)) := by
  rw [← extract_l, S_of]
theorem extract_to (s : ByteArray) (b : Nat) : s.extract 0 b = S (s.toList.take b) := by
  rw [extract_S, List.drop_zero, Nat.sub_zero]
theorem extract_from (s : ByteArray) (a : Nat) : s.extract a s.size = S (s.toList.drop a) := by
  rw [extract_S, size_toList]
  congr 1
  exact List.take_of_length_le (by simp)
theorem get_l (s : ByteArray) (i : Nat) (h : i < s.size) : s[i] = s.toList.getD i 0 := by
  have e : s.toList = s.data.toList := ByteArray.toList_eq s
  have h2 : i < s.data.size := h
  rw [e, List.getD_eq_getElem?_getD, List.getElem?_eq_getElem (by simpa using h2)]
  simp [ByteArray.getElem_eq_getElem_data]
theorem append_l (a b : ByteArray) : (a ++ b).toList = a.toList ++ b.toList := by
  rw [ByteArray.toList_eq, ByteArray.toList_eq, ByteArray.toList_eq]
  simp [ByteArray.data_append]
theorem append_S (a b : ByteArray) : a ++ b = S (a.toList ++ b.toList) := by
  rw [← append_l, S_of]
@[simp, go_sem] theorem S_append (a b : List UInt8) : S a ++ S b = S (a ++ b) := by rw [append_S, S_toList, S_toList]
theorem u8_beq (a b : UInt8) : (((a.toNat : Int)) == (b.toNat : Int)) = (a == b) := by
  rw [Bool.eq_iff_iff]
  simp only [beq_iff_eq]
  constructor
  · intro h; exact UInt8.toNat_inj.1 (by omega)
  · intro h; rw [h]
theorem eqc {a : UInt8} (c : UInt8) {i : Int} (hc : (c.toNat : Int) = i) : (((a.toNat : Int)) == i) = (a == c) := by rw [← hc, u8_beq]
theorem nec {a : UInt8} (c : UInt8) {i : Int} (hc : (c.toNat : Int) = i) : (((a.toNat : Int)) != i) = !(a == c) := by rw [bne, ← hc, u8_beq]
theorem u8_ofNat (n : Nat) (h : n < 256) : ((UInt8.ofNat n).toNat : Int) = n := by
  simp; omega
theorem take_succ_getD (l : List UInt8) (k : Nat) (h : k < l.length) : l.take (k + 1) = l.take k ++ [l.getD k 0] := by
  rw [List.take_succ_eq_append_getElem h, List.getD_eq_getElem?_getD, List.getElem?_eq_getElem h]; rfl
theorem drop_getD (l : List UInt8) (k : Nat) (h : k < l.length) : l.drop k = l.getD k 0 :: l.drop (k + 1) := by
  rw [List.drop_eq_getElem_cons h, List.getD_eq_getElem?_getD, List.getElem?_eq_getElem h]; rfl
theorem hasPrefix_raw (s p : ByteArray) : (decide (p.size ≤ s.size) && ((s.extract 0 p.size).toList == p.toList)) = Lib.hasPrefix s.toList p.toList := by
  rw [ByteArray.toList_eq s, Lib.hasPrefix_raw, ByteArray.toList_eq p]
theorem hasSuffix_raw (s p : ByteArray) : (decide (p.size ≤ s.size) && ((s.extract (s.size - p.size) s.size).toList == p.toList)) = Lib.hasSuffix s.toList p.toList := by
  rw [ByteArray.toList_eq s, Lib.hasSuffix_raw, ByteArray.toList_eq p]
theorem below_drews {B : Nat} {a w : World} (h : Below B a w) (n : Nat) : Below B a (w.drewN n) := ⟨h.os, h.tape, h.output, h.size, h.block⟩
theorem ret_bool {a b : Bool} (h : a = b) : Ending.returned (.bool a) = .returned (.bool b) := by rw [h]
theorem ret_int {k : IntKind} {a b : Int} (h : a = b) : Ending.returned (.int k a) = .returned (.int k b) := by rw [h]
theorem ret_str {a b : ByteArray} (h : a = b) : Ending.returned (.string a) = .returned (.string b) := by rw [h]
end Go.Proofs.YtgfoaopfdpclhaaGreatDoor
namespace Go.Proofs.YtgfoaopfdpclhaaGreatDoor
open Go.RowKit
set_option linter.unusedVariables false
set_option maxRecDepth 100000

/-- A slice value that reads as the cells xs, each element of sz cells. -/
def Rd (w : World) (sz : Nat) (v : Value) (n : Nat) (xs : List Value) : Prop :=
  xs.length = n * sz ∧ ∃ A c, v = .slice A n c ∧ n ≤ c ∧ c ≤ maxLen ∧ (n = 0 ∨ ∃ b off, A = some ⟨b, off, none⟩ ∧ b < w.heap.size ∧ ∀ j, j < xs.length → w.cell? ⟨b, off + j, none⟩ = xs[j]?)

theorem Rd.of_own {w : World} {base : Nat} {e : TypeId} {sz n : Nat} {v : Value} {xs : List Value} (h : w.ownsRow base e sz v n xs) : Rd w sz v n xs := by
  refine ⟨h.1, ?_⟩
  have hh := h
  rcases h.2 with ⟨rfl, rfl⟩ | ⟨g, cap, cur, rfl, hb, hg, hnc, hcm, hcs, htake⟩
  · exact ⟨none, 0, rfl, Nat.le_refl _, by simp [maxLen], .inl rfl⟩
  · refine ⟨_, cap, rfl, hnc, hcm, .inr ⟨g, 0, rfl, (Array.getElem?_eq_some_iff.1 hg).1, fun j hj => ?_⟩⟩
    rw [Nat.zero_add]
    exact hh.cellAt j (by rw [← h.1]; exact hj)

theorem own_form {w : World} {base : Nat} {e : TypeId} {sz n : Nat} {v : Value} {xs : List Value} (h : w.ownsRow base e sz v n xs) : ∃ A c, v = .slice A n c := by
  rcases h.2 with ⟨rfl, rfl⟩ | ⟨g, cap, cur, rfl, _⟩
  · exact ⟨_, _, rfl⟩
  · exact ⟨_, _, rfl⟩
/-- Where the cells lie, if there is an element. -/
theorem Rd.at_ {w : World} {sz n : Nat} {A : Option Addr} {c : Nat} {xs : List Value} (h : Rd w sz (.slice A n c) n xs) (hn : 0 < n) :
    ∃ b off, A = some ⟨b, off, none⟩ ∧ b < w.heap.size ∧ ∀ j, j < xs.length → w.cell? ⟨b, off + j, none⟩ = xs[j]? := by
  obtain ⟨_, A', c', h2, _, _, h4⟩ := h
  injection h2 with h2 _ _
  subst h2
  rcases h4 with h4 | h4
  · omega
  · exact h4
theorem Rd.cap {w : World} {sz n : Nat} {A : Option Addr} {c : Nat} {xs : List Value} (h : Rd w sz (.slice A n c) n xs) : n ≤ c ∧ c ≤ maxLen := by
  obtain ⟨_, A', c', h2, h3, h3', _⟩ := h
  injection h2 with _ _ h2
  subst h2
  exact ⟨h3, h3'⟩
theorem Rd.below {w w' : World} {sz n : Nat} {v : Value} {xs : List Value} (h : Rd w sz v n xs) (hb : Below w.heap.size w w') : Rd w' sz v n xs := by
  obtain ⟨h1, A, c, h2, h3, h3', h4⟩ := h
  refine ⟨h1, A, c, h2, h3, h3', ?_⟩
  rcases h4 with h4 | ⟨b, off, hA, hlt, hc⟩
  · exact .inl h4
  · exact .inr ⟨b, off, hA, by have := hb.size; omega, fun j hj => (hb.cell (p := ⟨b, off + j, none⟩) hlt).trans (hc j hj)⟩

theorem own_below {w w' : World} {B : Nat} {e : TypeId} {sz n : Nat} {v : Value} {xs : List Value} (h : w.ownsRow B e sz v n xs) (hb : Below w.heap.size w w') : w'.ownsRow B e sz v n xs :=
  h.kept (row := none) ⟨hb.os, hb.tape, hb.output, hb.size, fun k hk _ => hb.block k hk⟩ (by cases hv : v.ownBlock <;> simp)
/-- Behind a call that leaves the old blocks alone every old cell, and every old mark, reads as before: two rules for the walk. -/
theorem bel_cell {W w1 : World} (hb : Below W.heap.size W w1) : (∀ b o, b < W.heap.size → w1.cell? ⟨b, o, none⟩ = W.cell? ⟨b, o, none⟩) ∧ (∀ b o, b < W.heap.size → w1.frozen? ⟨b, o, none⟩ = W.frozen? ⟨b, o, none⟩) :=
  ⟨fun b o h => hb.cell (p := ⟨b, o, none⟩) h, fun b o h => hb.frozen (p := ⟨b, o, none⟩) h⟩
theorem bel_onto {B : Nat} {a b c : World} (h : Below B a b) (k : Below b.heap.size b c) (hB : B ≤ b.heap.size) : Below B a c := h.trans (k.mono hB)

theorem bel_call {W w w' : World} (hB : Below W.heap.size W w) (hb : Below w.heap.size w w') : Below W.heap.size W w' := bel_onto hB hb hB.size
theorem bel_alloc {W w : World} (hB : Below W.heap.size W w) (o : Obj) : Below W.heap.size W (w.alloc o) := hB.alloc hB.size o

theorem Rd.kept {w w' : World} {sz n : Nat} {v : Value} {xs : List Value} {row : Option Nat} (h : Rd w sz v n xs) (hg : w.grownBy w' row) (hne : ∀ g, v.ownBlock = some g → row ≠ some g) : Rd w' sz v n xs := by
  obtain ⟨h1, A, c, h2, h3, h3', h4⟩ := h
  refine ⟨h1, A, c, h2, h3, h3', ?_⟩
  rcases h4 with h4 | ⟨b, off, hA, hlt, hc⟩
  · exact .inl h4
  · refine .inr ⟨b, off, hA, by have := hg.size; omega, fun j hj => ?_⟩
    rw [← hc j hj]
    exact World.cell?_of_block (hg.block b hlt (fun e => hne b (by rw [h2, hA]; rfl) e.symm))

theorem add_none (b off j : Nat) : (⟨b, off, none⟩ : Addr).add j = ⟨b, off + j, none⟩ := by
  unfold Addr.add; split <;> simp_all

/-- One element more behind a row of the call's own, the element laid in a new block just ahead. -/
theorem wpList_push {P : Program} {W w : World} {ops : Array Oper} {rest : List Oper} {o : Oper} {a : Act} {Q : Exit → Act → World → Prop} (hgd : o.guard = none) (s x : Operand) (t : TypeId)
    (ho : o.op = .call { callee := .builtin .append, args := #[s, x], argTypes := #[t, t] })
    (B : Nat) (e : TypeId) (i : TypeInfo) (z : Value) (size bytes : Nat) (ht : P.underlying t = some (.slice e)) (hi : P.info? e = some i) (hz : i.zero = some z)
    (hsize : i.size = size) (hby : i.bytes = bytes) (hzs : z.cells.size = size) (hsz : 0 < size)
    (v : Value) (n : Nat) (xs : List Value) (hs : a.eval s = v) (hown : w.ownsRow B e size v n xs)
    (cs : Array Value) (g : Nat) (hx : a.eval x = .slice (some ⟨g, 0, none⟩) 1 1) (hgw : w.heap.size = g) (hl : cs.size = size) (h1 : ∀ u ∈ cs.toList, u.oneCell' = true)
    (h63 : n + 1 ≤ maxLen) (hbytes : (n + 1) * bytes ≤ 140737488355328) (hbase : B ≤ w.heap.size) (hbel : Below B W w)
    (h : ∀ v' w', w'.ownsRow B e size v' (n + 1) (xs ++ cs.toList) → w.grownBy w' v.ownBlock → Below B W w' → B ≤ w'.heap.size → wpList P ops Q rest (a.put o.dst v') w') :
    wpList P ops Q (o :: rest) a (w.alloc (.cells cs e)) := by
  subst hgw
  refine wpList_append_own _ hgd s x t ho B e i z size bytes ht hi hz hsize hby hzs hsz v n xs hs (hown.alloc _) ⟨w.heap.size, 0, none⟩ 1 1 cs.toList hx (by simp [hl]) ?_ h1 h63 hbytes (by simp; omega) ?_
  · intro j u hu
    rw [add_none, Nat.zero_add]
    rw [cell_of_row _ w.heap.size j cs e (0, 0) (heap_alloc_new w _)]
    simpa using hu
  · intro v' w' hown' hgrow _
    have hlt := hown.lt
    have hg : w.grownBy w' v.ownBlock := ⟨hgrow.os, hgrow.tape, hgrow.output, by have := hgrow.size; simp at this; omega, fun k hk hne => by
      rw [hgrow.block k (by simp; omega) hne]
      exact Below.heap_alloc w _ k hk⟩
    exact h v' w' hown' hg (hbel.grown hg hbase (fun k hk => (hlt k hk).1)) (by have := hg.size; omega)

@[simp, go_sem] theorem drewN_heap (w : World) (n : Nat) : (w.drewN n).heap = w.heap := rfl

section
variable {P : Program} (w : World)
/-- string(b) where b's cells are the bytes l. -/
theorem run_bytes_S (src dst e : TypeId) (a : Addr) (n cap : Nat) (l : List UInt8) (hn : l.length = n) (hs : P.underlying src = some (.slice e)) (he : P.underlying e = some (.int .u8)) (hd : P.underlying dst = some .string)
    (hc : ∀ j, j < l.length → w.cell? (a.add j) = some (.int .u8 ((l.getD j 0).toNat : Int))) :
    (convert src dst (.slice (some a) n cap)).run P w = .ok (.string (S l)) w := by
  subst hn
  refine run_convert_bytes_back w src dst e a cap l hs he hd (fun j hj => ?_)
  rw [hc j hj, List.getD_eq_getElem?_getD, List.getElem?_eq_getElem hj]
  rfl
/-- string([]byte{x}). -/
@[go_sem] theorem run_one_byte (src dst e : TypeId) (x : Int) (g : Nat) (hs : P.underlying src = some (.slice e)) (he : P.underlying e = some (.int .u8)) (hd : P.underlying dst = some .string) (hg : w.heap.size = g) :
    (convert src dst (.slice (some ⟨g, 0, none⟩) 1 1)).run P (w.alloc (.cells #[.int .u8 x] e)) = .ok (.string (S [UInt8.ofNat x.toNat])) (w.alloc (.cells #[.int .u8 x] e)) := by
  subst hg
  rw [run_convert_bytes_string _ src dst e _ 1 1 hs he hd, run_bytesToString _ _ 1 1 [x]]
  · rfl
  · have := run_loadCells_list (P := P) (w.alloc (.cells #[.int .u8 x] e)) ⟨w.heap.size, 0, none⟩ [.int .u8 x] (fun j v hj => by
      rw [add_none, Nat.zero_add, cell_of_row _ w.heap.size j _ e (0, 0) (heap_alloc_new w _)]
      simpa using hj)
    simpa using this
/-- string([]byte{x, y}). -/
@[go_sem] theorem run_two_bytes (src dst e : TypeId) (x y : Int) (g : Nat) (hs : P.underlying src = some (.slice e)) (he : P.underlying e = some (.int .u8)) (hd : P.underlying dst = some .string) (hg : w.heap.size = g) :
    (convert src dst (.slice (some ⟨g, 0, none⟩) 2 2)).run P (w.alloc (.cells #[.int .u8 x, .int .u8 y] e)) = .ok (.string (S [UInt8.ofNat x.toNat, UInt8.ofNat y.toNat])) (w.alloc (.cells #[.int .u8 x, .int .u8 y] e)) := by
  subst hg
  rw [run_convert_bytes_string _ src dst e _ 2 2 hs he hd, run_bytesToString _ _ 2 2 [x, y]]
  · rfl
  · have := run_loadCells_list (P := P) (w.alloc (.cells #[.int .u8 x, .int .u8 y] e)) ⟨w.heap.size, 0, none⟩ [.int .u8 x, .int .u8 y] (fun j v hj => by
      rw [add_none, Nat.zero_add, cell_of_row _ w.heap.size j _ e (0, 0) (heap_alloc_new w _)]
      simpa using hj)
    simpa using this
end

/-- A block that is known whole. -/
def Blk (w : World) (g : Nat) (t : TypeId) (cs : Array Value) : Prop := w.heap[g]? = some (.cells cs t (0, 0))
theorem Blk.new_ (w : World) (t : TypeId) (cs : Array Value) : Blk (w.alloc (.cells cs t)) w.heap.size t cs := heap_alloc_new w _
theorem Blk.lt {w : World} {g : Nat} {t : TypeId} {cs : Array Value} (h : Blk w g t cs) : g < w.heap.size := (Array.getElem?_eq_some_iff.1 h).1
theorem Blk.below {w w' : World} {g : Nat} {t : TypeId} {cs : Array Value} (h : Blk w g t cs) (hb : Below w.heap.size w w') : Blk w' g t cs := (hb.block g h.lt).trans h
theorem Blk.alloc {w : World} {g : Nat} {t : TypeId} {cs : Array Value} (h : Blk w g t cs) (o : Obj) : Blk (w.alloc o) g t cs := h.below (bel_alloc (Below.refl _ _) o)
theorem Blk.cell {w : World} {g : Nat} {t : TypeId} {cs : Array Value} (h : Blk w g t cs) (i : Nat) : w.cell? ⟨g, i, none⟩ = cs[i]? := cell_of_row w g i cs t (0, 0) h
theorem Blk.free {w : World} {g : Nat} {t : TypeId} {cs : Array Value} (h : Blk w g t cs) (i : Nat) : w.frozen? ⟨g, i, none⟩ = false := by
  unfold World.frozen?
  rw [show w.heap[(⟨g, i, none⟩ : Addr).block]? = _ from h]
  simp
theorem Rd.alloc {w : World} {sz n : Nat} {v : Value} {xs : List Value} (h : Rd w sz v n xs) (o : Obj) : Rd (w.alloc o) sz v n xs := h.below (bel_alloc (Below.refl _ _) o)

/-- A text as a cell. -/
def strV (l : List UInt8) : Value := .string (S l)
theorem strV_one (l : List UInt8) : (strV l).oneCell' = true := rfl
end Go.Proofs.YtgfoaopfdpclhaaGreatDoor
namespace Go.Proofs.YtgfoaopfdpclhaaGreatDoor
open Go.RowKit
set_option linter.unusedVariables false
set_option maxRecDepth 100000

def lowC (c : UInt8) : UInt8 := if 65 ≤ c.toNat ∧ c.toNat ≤ 90 then UInt8.ofNat (c.toNat + 32) else c
def blankB (c : UInt8) : Bool := decide (c.toNat = 32 ∨ c.toNat = 9)
def digitB (c : UInt8) : Bool := decide (48 ≤ c.toNat ∧ c.toNat ≤ 57)
def ctlB (c : UInt8) : Bool := decide ((c.toNat < 32 ∧ c.toNat ≠ 9) ∨ c.toNat = 127)
theorem lowC_yes {c : UInt8} (h : 65 ≤ c.toNat) (h' : c.toNat ≤ 90) : ((lowC c).toNat : Int) = c.toNat + 32 := by
  unfold lowC
  rw [if_pos ⟨h, h'⟩]
  have := c.toNat_lt
  simp
  omega
theorem lowC_no {c : UInt8} (h : ¬ (65 ≤ c.toNat ∧ c.toNat ≤ 90)) : lowC c = c := by
  unfold lowC
  rw [if_neg h]

set_option maxHeartbeats 400000 in
theorem lower_any (c : UInt8) (w : World) :
    Calls Tryz.prog 85 #[.int .u8 c.toNat] w fun e w' => e = .returned (.int .u8 (lowC c).toNat) ∧ w = w' := by
  have hc : c.toNat < 256 := c.toNat_lt
  go_enter Tryz.func85, Tryz.ntmps85
  go_wp2
  · go_ret
    exact ⟨ret_int (by rw [lowC_yes (by omega) (by omega)]; omega), rfl⟩
  · go_ret
    exact ⟨ret_int (by rw [lowC_no (by omega)]), rfl⟩
  · go_ret
    exact ⟨ret_int (by rw [lowC_no (by omega)]), rfl⟩
set_option maxHeartbeats 400000 in
theorem blank_any (c : UInt8) (w : World) :
    Calls Tryz.prog 102 #[.int .u8 c.toNat] w fun e w' => e = .returned (.bool (blankB c)) ∧ w = w' := by
  have hc : c.toNat < 256 := c.toNat_lt
  go_enter Tryz.func102, Tryz.ntmps102
  go_wp2
  all_goals
    go_ret
    refine ⟨ret_bool ?_, rfl⟩
    unfold blankB
    rw [Bool.eq_iff_iff]
    simp
    omega
set_option maxHeartbeats 400000 in
theorem digit_any (c : UInt8) (w : World) :
    Calls Tryz.prog 134 #[.int .u8 c.toNat] w fun e w' => e = .returned (.bool (digitB c)) ∧ w = w' := by
  have hc : c.toNat < 256 := c.toNat_lt
  go_enter Tryz.func134, Tryz.ntmps134
  go_wp2
  all_goals
    go_ret
    refine ⟨ret_bool ?_, rfl⟩
    unfold digitB
    rw [Bool.eq_iff_iff]
    simp
    omega

/-- A text parted at the first byte c. -/
def cutL : List UInt8 → UInt8 → Option (List UInt8 × List UInt8)
  | [], _ => none
  | x :: r, c => if x == c then some ([], r) else (cutL r c).map fun p => (x :: p.1, p.2)
def findL (l : List UInt8) (c : UInt8) : Int := match cutL l c with | none => -1 | some p => p.1.length
theorem cut_hit (c : UInt8) (l : List UInt8) (k : Nat) (h : ∀ j, j < k → (l.getD j 0 == c) = false) (hk : (l.getD k 0 == c) = true) (hlt : k < l.length) : cutL l c = some (l.take k, l.drop (k + 1)) := by
  induction k generalizing l with
  | zero =>
    cases l with
    | nil => simp at hlt
    | cons x r => unfold cutL; rw [if_pos (by simpa using hk)]; rfl
  | succ k ih =>
    cases l with
    | nil => simp at hlt
    | cons x r =>
      have h0 := h 0 (by omega)
      rw [List.getD_cons_zero] at h0
      unfold cutL
      rw [if_neg (by rw [h0]; decide), ih r (fun j hj => h (j + 1) (by omega)) hk (by simpa using hlt)]
      rfl
theorem cut_none (c : UInt8) (l : List UInt8) (h : ∀ j, j < l.length → (l.getD j 0 == c) = false) : cutL l c = none := by
  induction l with
  | nil => rfl
  | cons x r ih =>
    have h0 := h 0 (by simp)
    rw [List.getD_cons_zero] at h0
    unfold cutL
    rw [if_neg (by rw [h0]; decide), ih (fun j hj => h (j + 1) (by simpa using hj))]
    rfl
theorem find_hit {c : UInt8} {l : List UInt8} {k : Nat} (h : ∀ j, j < k → (l.getD j 0 == c) = false) (hk : (l.getD k 0 == c) = true) (hlt : k < l.length) : findL l c = k := by
  unfold findL
  rw [cut_hit c l k h hk hlt]
  simp
  omega
theorem find_none {c : UInt8} {l : List UInt8} (h : ∀ j, j < l.length → (l.getD j 0 == c) = false) : findL l c = -1 := by
  unfold findL
  rw [cut_none c l h]
theorem all_step {p : Nat → Prop} {k : Nat} (h : ∀ j, j < k → p j) (hk : p k) : ∀ j, j < k + 1 → p j := by
  intro j hj
  by_cases e : j = k
  · rw [e]; exact hk
  · exact h j (by omega)

set_option maxHeartbeats 400000 in
theorem find_any (s : ByteArray) (c : UInt8) (w : World) (hs : s.size ≤ maxLen) :
    Calls Tryz.prog 103 #[.string s, .int .u8 c.toNat] w fun e w' => e = .returned (.int .i64 (findL s.toList c)) ∧ w = w' := by
  unfold maxLen at hs
  have hsz := Lib.hid (size_toList s)
  go_enter Tryz.func103, Tryz.ntmps103
  go_wp2
  go_step3
  go_wp2
  go_step3
  go_wp2

  go_loop [5, 9] (fun a i => ∃ k : Nat, k ≤ s.size ∧ i = .int .i64 k ∧ a = .int .i64 (-1) ∧ Hid (∀ j, j < k → (s.toList.getD j 0 == c) = false)) (fun _ i => s.size - (intOf i).toNat)
  case atStart => exact ⟨0, Nat.zero_le _, rfl, rfl, fun j hj => absurd hj (by omega)⟩
  case round =>
    obtain ⟨k, hk, rfl, rfl, hall⟩ := hrel
    by_cases hlt : k < s.size
    · go_wp2
      · have h : ((s[k].toNat : Int) == c.toNat) = true := by assumption
        rw [u8_beq, get_l] at h
        go_ret
        exact ⟨ret_int (find_hit hall.out h (by rw [← hsz.out]; exact hlt)).symm, rfl⟩
      · have h : ((s[k].toNat : Int) == c.toNat) = false := by assumption
        rw [u8_beq, get_l] at h
        go_round
        case rel => exact ⟨k + 1, by omega, by go_num, rfl, all_step hall.out h⟩
        case measure => simp [intOf]; omega
    · obtain rfl : k = s.size := by omega
      go_wp2
      go_ret
      exact ⟨ret_int (find_none (by rw [← hsz.out]; exact hall.out)).symm, rfl⟩

set_option maxHeartbeats 400000 in
theorem refFind_any (s : ByteArray) (c : UInt8) (w : World) (hs : s.size ≤ maxLen) :
    Calls Tryz.prog 37 #[.string s, .int .u8 c.toNat] w fun e w' => e = .returned (.int .i64 (findL s.toList c)) ∧ w = w' := by
  unfold maxLen at hs
  have hsz := Lib.hid (size_toList s)
  go_enter Tryz.func37, Tryz.ntmps37
  go_wp2
  go_loop [5] (fun i => ∃ k : Nat, k ≤ s.size ∧ i = .int .i64 k ∧ Hid (∀ j, j < k → (s.toList.getD j 0 == c) = false)) (fun i => s.size - (intOf i).toNat)
  case atStart => exact ⟨0, Nat.zero_le _, rfl, fun j hj => absurd hj (by omega)⟩
  case round =>
    obtain ⟨k, hk, rfl, hall⟩ := hrel
    by_cases hlt : k < s.size
    · go_wp2
      · have h : ((s[k].toNat : Int) == c.toNat) = true := by assumption
        rw [u8_beq, get_l] at h
        go_ret
        exact ⟨ret_int (find_hit hall.out h (by rw [← hsz.out]; exact hlt)).symm, rfl⟩
      · have h : ((s[k].toNat : Int) == c.toNat) = false := by assumption
        rw [u8_beq, get_l] at h
        go_round
        case rel => exact ⟨k + 1, by omega, by go_num, all_step hall.out h⟩
        case measure => simp [intOf]; omega
    · obtain rfl : k = s.size := by omega
      go_wp2
      go_ret
      exact ⟨ret_int (find_none (by rw [← hsz.out]; exact hall.out)).symm, rfl⟩

/-- With how many digits a text begins. -/
def digN : List UInt8 → Nat
  | [] => 0
  | c :: r => if digitB c then digN r + 1 else 0
theorem digN_le (l : List UInt8) : digN l ≤ l.length := by
  induction l with
  | nil => simp [digN]
  | cons c r ih => unfold digN; split <;> simp <;> omega
theorem digN_all (l : List UInt8) (j : Nat) (h : j < digN l) : digitB (l.getD j 0) = true := by
  induction l generalizing j with
  | nil => simp [digN] at h
  | cons c r ih =>
    unfold digN at h
    split at h
    · cases j with
      | zero => simpa
      | succ j => exact ih j (by omega)
    · omega
theorem digN_end (l : List UInt8) (k : Nat) (h : ∀ j, j < k → digitB (l.getD j 0) = true) (hk : k = l.length ∨ (k < l.length ∧ digitB (l.getD k 0) = false)) : digN l = k := by
  induction l generalizing k with
  | nil => rcases hk with hk | hk; (rw [hk]; rfl); simp at hk
  | cons c r ih =>
    unfold digN
    cases k with
    | zero =>
      rcases hk with hk | hk
      · simp at hk
      · rw [if_neg (by simpa using hk.2)]
    | succ k =>
      rw [if_pos (by simpa using h 0 (by omega)), ih k (fun j hj => h (j + 1) (by omega))]
      simpa using hk
theorem digN_take (l : List UInt8) (k : Nat) (h : k < l.length) : digN (l.take (k + 1)) = if digN (l.take k) = k ∧ digitB (l.getD k 0) = true then k + 1 else digN (l.take k) := by
  induction l generalizing k with
  | nil => simp at h
  | cons c r ih =>
    cases k with
    | zero =>
      cases hc : digitB c <;> simp [digN, hc]
    | succ k =>
      rw [List.take_succ_cons, List.take_succ_cons, List.getD_cons_succ]
      simp only [digN]
      rw [ih k (by simpa using h)]
      by_cases hc : digitB c = true
      · simp only [hc, if_true]
        by_cases h2 : digN (r.take k) = k ∧ digitB (r.getD k 0) = true
        · rw [if_pos h2, if_pos ⟨by omega, h2.2⟩]
        · rw [if_neg h2, if_neg (fun e => h2 ⟨by omega, e.2⟩)]
      · simp [hc]

set_option maxHeartbeats 400000 in
theorem digits_any (s : ByteArray) (w : World) (hs : s.size ≤ maxLen) :
    Calls Tryz.prog 115 #[.string s] w fun e w' => e = .returned (.int .i64 (digN s.toList)) ∧ w = w' := by
  unfold maxLen at hs
  have hsz := Lib.hid (size_toList s)
  go_enter Tryz.func115, Tryz.ntmps115
  go_wp2
  go_loop [3] (fun i => ∃ k : Nat, k ≤ s.size ∧ i = .int .i64 k ∧ Hid (∀ j, j < k → digitB (s.toList.getD j 0) = true)) (fun i => s.size - (intOf i).toNat)
  case atStart => exact ⟨0, Nat.zero_le _, rfl, fun j hj => absurd hj (by omega)⟩
  case round =>
    obtain ⟨k, hk, rfl, hall⟩ := hrel
    by_cases hlt : k < s.size
    · have hlti : (k : Int) < s.size := by omega
      have hx := Lib.hid (get_l s k hlt)
      by_cases hd : digitB s[k] = true
      · go_wp2_with (go_at_call 134; refine (digit_any _ _).mono ?_; rintro e w' ⟨rfl, rfl⟩)
        go_round
        case rel => exact ⟨k + 1, by omega, by go_num, all_step hall.out (by rw [← hx.out]; exact hd)⟩
        case measure => simp [intOf]; omega
      · have hd' : digitB s[k] = false := by simpa using hd
        clear hd
        go_wp2_with (go_at_call 134; refine (digit_any _ _).mono ?_; rintro e w' ⟨rfl, rfl⟩)
        go_ret
        exact ⟨ret_int (by rw [digN_end s.toList k hall.out (Or.inr ⟨by rw [← hsz.out]; exact hlt, by rw [← hx.out]; exact hd'⟩)]), rfl⟩
    · obtain rfl : k = s.size := by omega
      go_wp2
      go_ret
      exact ⟨ret_int (by rw [digN_end s.toList s.size hall.out (Or.inl hsz.out)]), rfl⟩

set_option maxHeartbeats 400000 in
theorem refDigits_any (s : ByteArray) (w : World) (hs : s.size ≤ maxLen) :
    Calls Tryz.prog 97 #[.string s] w fun e w' => e = .returned (.int .i64 (digN s.toList)) ∧ w = w' := by
  unfold maxLen at hs
  have hsz := Lib.hid (size_toList s)
  go_enter Tryz.func97, Tryz.ntmps97
  go_wp2
  go_loop [3, 4] (fun n i => ∃ k : Nat, k ≤ s.size ∧ i = .int .i64 k ∧ n = .int .i64 (digN (s.toList.take k))) (fun _ i => s.size - (intOf i).toNat)
  case atStart => exact ⟨0, Nat.zero_le _, rfl, rfl⟩
  case round =>
    obtain ⟨k, hk, rfl, rfl⟩ := hrel
    have hle := digN_le (s.toList.take k)
    rw [List.length_take] at hle
    by_cases hlt : k < s.size
    · have hlti : (k : Int) < s.size := by omega
      have hx := Lib.hid (get_l s k hlt)
      have ht := Lib.hid (digN_take s.toList k (by rw [← hsz.out]; exact hlt))
      by_cases h1 : digN (s.toList.take k) = k
      · have h1' := Lib.hid h1
        rw [h1]
        clear h1 hle
        go_wp2
        all_goals
          go_round
          case rel => exact ⟨k + 1, by omega, by go_num, by rw [ht.out, h1'.out, ← hx.out]; unfold digitB; first | rw [if_pos ⟨rfl, decide_eq_true (by omega)⟩]; go_num | rw [if_neg (by simp; omega)]⟩
          case measure => simp [intOf]; omega
      · have e1 : ((digN (s.toList.take k) : Int) == k) = false := beq_eq_false_iff_ne.2 (by omega)
        have h1' := Lib.hid h1
        clear h1
        go_wp2
        all_goals
          go_round
          case rel => exact ⟨k + 1, by omega, by go_num, by rw [ht.out, if_neg (fun e => h1'.out e.1)]⟩
          case measure => simp [intOf]; omega
    · obtain rfl : k = s.size := by omega
      go_wp2
      go_ret
      exact ⟨ret_int (by rw [hsz.out, List.take_length]), rfl⟩

theorem any_hit {p : UInt8 → Bool} {l : List UInt8} {k : Nat} (hk : k < l.length) (h : p (l.getD k 0) = true) : l.any p = true := by
  rw [List.any_eq_true]
  refine ⟨l.getD k 0, ?_, h⟩
  rw [List.getD_eq_getElem?_getD, List.getElem?_eq_getElem hk]
  exact List.getElem_mem hk
theorem any_step {p : UInt8 → Bool} {l : List UInt8} {k : Nat} (hk : k < l.length) : (l.take (k + 1)).any p = ((l.take k).any p || p (l.getD k 0)) := by
  rw [take_succ_getD l k hk, List.any_append]
  simp

set_option maxHeartbeats 400000 in
theorem control_any (s : ByteArray) (w : World) (hs : s.size ≤ maxLen) :
    Calls Tryz.prog 50 #[.string s] w fun e w' => e = .returned (.bool (s.toList.any ctlB)) ∧ w = w' := by
  unfold maxLen at hs
  have hsz := Lib.hid (size_toList s)
  go_enter Tryz.func50, Tryz.ntmps50
  go_wp2
  go_loop [6] (fun i => ∃ k : Nat, k ≤ s.size ∧ i = .int .i64 k ∧ Hid ((s.toList.take k).any ctlB = false)) (fun i => s.size - (intOf i).toNat)
  case atStart => exact ⟨0, Nat.zero_le _, rfl, rfl⟩
  case round =>
    obtain ⟨k, hk, rfl, hall⟩ := hrel
    by_cases hlt : k < s.size
    · have hx := Lib.hid (get_l s k hlt)
      have ht := Lib.hid (any_step (p := ctlB) (l := s.toList) (by rw [← hsz.out]; exact hlt : k < s.toList.length))
      have hh := Lib.hid (any_hit (p := ctlB) (l := s.toList) (by rw [← hsz.out]; exact hlt : k < s.toList.length))
      go_wp2
      all_goals first
        | (go_ret; exact ⟨ret_bool (hh.out (by rw [← hx.out]; exact decide_eq_true (by (try simp only [beq_iff_eq] at *); omega))).symm, rfl⟩)
        | (go_round
           case rel => exact ⟨k + 1, by omega, by go_num, by show _ = _; rw [ht.out, hall.out, ← hx.out]; exact decide_eq_false (by (try simp only [beq_eq_false_iff_ne] at *); omega)⟩
           case measure => simp [intOf]; omega)
    · obtain rfl : k = s.size := by omega
      go_wp2
      go_ret
      exact ⟨ret_bool (by have := hall.out; rw [hsz.out, List.take_length] at this; rw [this]), rfl⟩
end Go.Proofs.YtgfoaopfdpclhaaGreatDoor
namespace Go.Proofs.YtgfoaopfdpclhaaGreatDoor
open Go.RowKit
set_option linter.unusedVariables false
set_option maxRecDepth 100000

/-- A text's size, in a slot. -/
def strSize : Value → Nat | .string t => t.size | _ => 0
theorem Tryz.info9 : (Tryz.prog.info? 9).map (fun i => (i.zero, i.size, i.bytes)) = some (some (.string ByteArray.empty), 1, 16) := by kernel_rfl
def lowerL (l : List UInt8) : List UInt8 := l.map lowC
theorem lowerL_eq_iff {a b : List UInt8} (h : a.length = b.length) : lowerL a = lowerL b ↔ ∀ j, j < a.length → lowC (a.getD j 0) = lowC (b.getD j 0) := by
  unfold lowerL
  constructor
  · intro e j hj
    have := congrArg (fun l => l[j]?) e
    simp only [List.getElem?_map] at this
    rw [List.getElem?_eq_getElem hj, List.getElem?_eq_getElem (by omega : j < b.length)] at this
    rw [List.getD_eq_getElem?_getD, List.getD_eq_getElem?_getD, List.getElem?_eq_getElem hj, List.getElem?_eq_getElem (by omega : j < b.length)]
    simpa using this
  · intro e
    apply List.ext_getElem
    · simpa using h
    · intro j h1 h2
      have hj : j < a.length := by simpa using h1
      have := e j hj
      rw [List.getD_eq_getElem?_getD, List.getD_eq_getElem?_getD, List.getElem?_eq_getElem hj, List.getElem?_eq_getElem (by omega : j < b.length)] at this
      simpa using this

set_option maxHeartbeats 400000 in
theorem same_any (s t : ByteArray) (w : World) (hs : s.size ≤ maxLen) (ht : t.size ≤ maxLen) :
    Calls Tryz.prog 139 #[.string s, .string t] w fun e w' => e = .returned (.bool (lowerL s.toList == lowerL t.toList)) ∧ Below w.heap.size w w' := by
  unfold maxLen at hs ht
  have hsz := Lib.hid (size_toList s)
  have htz := Lib.hid (size_toList t)
  by_cases hne : s.size = t.size
  · have hne1 : ((s.size : Int) != t.size) = false := by rw [bne_eq_false_iff_eq]; omega
    have hle : t.size ≤ s.size := by omega
    have hle2 : s.size ≤ t.size := by omega
    have hE := Lib.hid hne
    clear hne
    have hiff := Lib.hid (lowerL_eq_iff (a := s.toList) (b := t.toList) (by rw [← hsz.out, ← htz.out, hE.out]))
    go_enter Tryz.func139, Tryz.ntmps139
    go_wp2
    go_loopw [13] (fun i wr => ∃ k : Nat, k ≤ s.size ∧ i = .int .i64 k ∧ Below w.heap.size w wr ∧ Hid (∀ j, j < k → lowC (s.toList.getD j 0) = lowC (t.toList.getD j 0))) (fun i _ => s.size - (intOf i).toNat)
    case atStart => exact ⟨0, Nat.zero_le _, rfl, Below.refl _ _, fun j hj => absurd hj (by omega)⟩
    case round =>
      obtain ⟨k, hk, rfl, hw, hall⟩ := hrel
      by_cases hlt : k < s.size
      · have hlt2 : k < t.size := by omega
        have hlti : (k : Int) < s.size := by omega
        have hlti2 : (k : Int) < t.size := by omega
        have hx := Lib.hid (get_l s k hlt)
        have hy := Lib.hid (get_l t k hlt2)
        go_wp2
        go_quiet ((first | (go_at_call 85; exact Calls.quiet_of_same ((lower_any _ _).mono fun _ _ h => ⟨h.1, h.2.symm⟩))))
        by_cases he : lowC s[k] = lowC t[k]
        · have he1 : (((lowC s[k]).toNat : Int) != (lowC t[k]).toNat) = false := by rw [he]; simp
          have hE2 := Lib.hid he
          clear he
          go_wp2
          go_roundw
          case rel => exact ⟨k + 1, by omega, by go_num, below_drews hw _, all_step hall.out (by rw [← hx.out, ← hy.out]; exact hE2.out)⟩
          case measure => simp [intOf]; omega
        · have he1 : (((lowC s[k]).toNat : Int) != (lowC t[k]).toNat) = true := by
            rw [bne_iff_ne]; intro e; exact he (UInt8.toNat_inj.1 (by omega))
          have hE2 := Lib.hid he
          clear he
          go_wp2
          go_ret
          refine ⟨ret_bool (Eq.symm ?_), below_drews hw _⟩
          rw [beq_eq_false_iff_ne]
          intro e
          have := hiff.out.1 e k (by rw [← hsz.out]; exact hlt)
          rw [← hx.out, ← hy.out] at this
          exact hE2.out this
      · obtain rfl : k = s.size := by omega
        go_wp2
        go_ret
        exact ⟨ret_bool (by rw [hiff.out.2 (by rw [← hsz.out]; exact hall.out)]; simp), hw⟩
  · have hne1 : ((s.size : Int) != t.size) = true := by rw [bne_iff_ne]; omega
    go_enter Tryz.func139, Tryz.ntmps139
    go_wp2
    go_ret
    refine ⟨ret_bool (Eq.symm ?_), Below.refl _ _⟩
    rw [beq_eq_false_iff_ne]
    intro e
    have := congrArg List.length e
    simp [lowerL] at this
    rw [← size_toList, ← size_toList] at this
    exact hne this

theorem cut_some {c : UInt8} {l : List UInt8} {p : List UInt8 × List UInt8} (h : cutL l c = some p) :
    p.1.length < l.length ∧ p.1 = l.take p.1.length ∧ p.2 = l.drop (p.1.length + 1) ∧ l = p.1 ++ c :: p.2 ∧ c ∉ p.1 := by
  induction l generalizing p with
  | nil => simp [cutL] at h
  | cons x r ih =>
    unfold cutL at h
    by_cases hx : (x == c) = true
    · rw [if_pos hx] at h
      injection h with h
      subst h
      have : x = c := by simpa using hx
      subst this
      simp
    · rw [if_neg hx] at h
      cases hr : cutL r c with
      | none => rw [hr] at h; simp at h
      | some q =>
        rw [hr] at h
        simp only [Option.map_some, Option.some.injEq] at h
        subst h
        obtain ⟨h1, h2, h3, h4, h5⟩ := ih hr
        refine ⟨by simp; omega, by simp only [List.length_cons, List.take_succ_cons]; rw [← h2], by simp only [List.length_cons, List.drop_succ_cons]; exact h3, by simp only [List.cons_append]; rw [← h4], ?_⟩
        simp only [List.mem_cons, not_or]
        exact ⟨fun e => hx (by simp [e]), h5⟩
theorem cut_none_iff {c : UInt8} {l : List UInt8} : cutL l c = none ↔ c ∉ l := by
  induction l with
  | nil => simp [cutL]
  | cons x r ih =>
    unfold cutL
    by_cases hx : (x == c) = true
    · rw [if_pos hx]
      have : x = c := by simpa using hx
      simp [this]
    · rw [if_neg hx]
      simp only [Option.map_eq_none_iff, ih, List.mem_cons, not_or]
      exact ⟨fun h => ⟨fun e => hx (by simp [e]), h⟩, fun h => h.2⟩

set_option maxHeartbeats 400000 in
theorem cut_any_none (s : ByteArray) (c : UInt8) (w : World) (hs : s.size ≤ maxLen) (h : cutL s.toList c = none) :
    Calls Tryz.prog 72 #[.string s, .int .u8 c.toNat] w fun e w' => e = .returned (.tuple #[.string s, .string (S []), .bool false]) ∧ w = w' := by
  have hf : findL s.toList c = -1 := by unfold findL; rw [h]
  clear h
  go_enter Tryz.func72, Tryz.ntmps72
  go_wp2_with (go_at_call 103; refine (find_any _ _ _ hs).mono ?_; rintro e w' ⟨rfl, rfl⟩)
  go_ret3
  exact ⟨rfl, rfl⟩

set_option maxHeartbeats 400000 in
theorem cut_any_some (s : ByteArray) (c : UInt8) (w : World) (hs : s.size ≤ maxLen) (a b : List UInt8) (h : cutL s.toList c = some (a, b)) :
    Calls Tryz.prog 72 #[.string s, .int .u8 c.toNat] w fun e w' => e = .returned (.tuple #[.string (S a), .string (S b), .bool true]) ∧ Below w.heap.size w w' := by
  have hs' := hs
  unfold maxLen at hs'
  have hf : findL s.toList c = a.length := by unfold findL; rw [h]
  have H := Lib.hid (cut_some h)
  have h1 : a.length < s.size := by rw [size_toList]; exact H.out.1
  have h1i : (a.length : Int) < s.size := by omega
  clear h
  go_enter Tryz.func72, Tryz.ntmps72
  go_wp2_with (go_at_call 103; refine (find_any _ _ _ hs).mono ?_; rintro e w' ⟨rfl, rfl⟩)
  have hw1 : IntKind.i64.wrap ((a.length : Int) + 1) = (a.length : Int) + 1 := IntWalk.i64_in _ (by omega)
  have hw2 : (0 : Int) ≤ (a.length : Int) + 1 := by omega
  have hw3 : (a.length : Int) + 1 ≤ s.size := by omega
  have hw4 : ((a.length : Int) + 1).toNat = a.length + 1 := by omega
  go_quiet (fail)
  go_wp2
  go_ret3
  refine ⟨?_, below_drews (Below.refl _ _) _⟩
  show Ending.returned (.tuple #[.string (s.extract 0 a.length), .string (s.extract (a.length + 1) s.size), .bool true]) = _
  rw [extract_to, extract_from, ← H.out.2.1, ← H.out.2.2.1]

/-- A text's parts about a byte. -/
def splitL (l : List UInt8) (c : UInt8) : List (List UInt8) :=
  match l with
  | [] => [[]]
  | x :: r => if x == c then [] :: splitL r c else match splitL r c with
    | [] => [[x]]
    | h :: t => (x :: h) :: t
theorem split_ne (l : List UInt8) (c : UInt8) : splitL l c ≠ [] := by
  cases l with
  | nil => simp [splitL]
  | cons x r =>
    unfold splitL
    split
    · simp
    · split <;> simp
theorem split_hit {x c : UInt8} (r : List UInt8) (h : (x == c) = true) : splitL (x :: r) c = [] :: splitL r c := by rw [splitL, if_pos h]
theorem split_miss {x c : UInt8} (r : List UInt8) (h : ¬ (x == c) = true) : splitL (x :: r) c = match splitL r c with
    | [] => [[x]]
    | h :: t => (x :: h) :: t := by rw [splitL, if_neg h]
theorem split_cut (l : List UInt8) (c : UInt8) : splitL l c = match cutL l c with | none => [l] | some p => p.1 :: splitL p.2 c := by
  induction l with
  | nil => rfl
  | cons x r ih =>
    by_cases hx : (x == c) = true
    · rw [split_hit r hx, cutL, if_pos hx]
    · rw [split_miss r hx, cutL, if_neg hx, ih]
      cases cutL r c with
      | none => rfl
      | some p => rfl
theorem split_len (l : List UInt8) (c : UInt8) : (splitL l c).length ≤ l.length + 1 := by
  induction l with
  | nil => simp [splitL]
  | cons x r ih =>
    unfold splitL
    split
    · simp; omega
    · split <;> simp_all; omega

theorem split_part (l : List UInt8) (c : UInt8) : ∀ x ∈ splitL l c, x.length ≤ l.length := by
  induction l with
  | nil => simp [splitL]
  | cons x r ih =>
    intro y hy
    by_cases hx : (x == c) = true
    · rw [split_hit r hx] at hy
      rcases List.mem_cons.1 hy with h | h
      · subst h; simp
      · have := ih y h; simp; omega
    · rw [split_miss r hx] at hy
      cases hr : splitL r c with
      | nil => exact absurd hr (split_ne r c)
      | cons h t =>
        rw [hr] at hy ih
        rcases List.mem_cons.1 hy with h' | h'
        · subst h'; have := ih h (by simp); simp; omega
        · have := ih y (by simp [h']); simp; omega

set_option maxHeartbeats 1000000 in
theorem split_any (s : ByteArray) (c : UInt8) (w : World) (hs : s.size ≤ 4294967296) :
    Calls Tryz.prog 48 #[.string s, .int .u8 c.toNat] w fun e w' => ∃ A cp, e = .returned (.slice A (splitL s.toList c).length cp) ∧
      w'.ownsRow w.heap.size 9 1 (.slice A (splitL s.toList c).length cp) (splitL s.toList c).length ((splitL s.toList c).map strV) ∧ Below w.heap.size w w' := by
  obtain ⟨i0, hi, hz0, hz1, hz2⟩ := info_parts Tryz.info9
  have hl := split_len s.toList c
  rw [← size_toList] at hl
  go_enter Tryz.func48, Tryz.ntmps48
  go_wp2
  go_loopw [0, 5] (fun p v wr => ∃ (t : ByteArray) (acc : List (List UInt8)), p = .string t ∧ t.size ≤ s.size ∧ wr.ownsRow w.heap.size 9 1 v acc.length (acc.map strV) ∧ Below w.heap.size w wr ∧ w.heap.size ≤ wr.heap.size ∧ Hid (splitL s.toList c = acc ++ splitL t.toList c))
    (fun p _ _ => strSize p)
  case atStart => exact ⟨s, [], rfl, Nat.le_refl _, World.ownsRow_nil _ _ _ _, Below.refl _ _, Nat.le_refl _, rfl⟩
  case round =>
    obtain ⟨t, acc, rfl, ht, hown, hbel, hsz, hch⟩ := hrel
    have htm : t.size ≤ maxLen := by unfold maxLen; omega
    have hacc : acc.length + 1 ≤ s.size + 1 := by
      have h1 := congrArg List.length hch.out
      have h2 := List.length_pos_iff.2 (split_ne t.toList c)
      simp at h1
      omega
    cases hcut : cutL t.toList c with
    | none =>
      have hch2 := Lib.hid (show splitL s.toList c = acc ++ [t.toList] by rw [hch.out, split_cut, hcut])
      have H := Lib.hid hcut
      clear hcut hch
      go_wp2_with (first
        | (go_at_call 72; refine (cut_any_none _ _ _ htm H.out).mono ?_; rintro e w' ⟨rfl, rfl⟩)
        | (at_builtin; refine wpList_push rfl _ _ 22 rfl w.heap.size 9 i0 (.string ByteArray.empty) 1 16 Tryz.underlying22 hi hz0 hz1 hz2 rfl (by decide) _ _ _ rfl hown _ _ rfl rfl rfl ?c1 ?c2 ?c3 hsz hbel ?_))
      case c1 => exact rfl
      case c2 => unfold maxLen; omega
      case c3 => omega
      intro v' w' hown' hg hbel' hsz'
      go_wp2
      go_ret
      rw [hch2.out, show acc.length + 1 = (acc ++ [t.toList]).length by simp] at *
      obtain ⟨A, cp, rfl⟩ := own_form hown'
      refine ⟨A, cp, rfl, ?_, hbel'⟩
      rw [List.map_append]
      have : strV t.toList = .string t := by unfold strV; rw [S_of]
      simp only [List.map_cons, List.map_nil, this]
      exact hown'
    | some p =>
      obtain ⟨a, b⟩ := p
      have hch2 := Lib.hid (show splitL s.toList c = (acc ++ [a]) ++ splitL b c by rw [hch.out, split_cut, hcut]; simp)
      have hlt := (cut_some hcut).1
      have hb := congrArg List.length (cut_some hcut).2.2.1
      simp only [List.length_drop] at hb hlt
      rw [← size_toList] at hb hlt
      have hb2 : b.length < t.size := by omega
      have H := Lib.hid hcut
      clear hcut hch hb hlt
      go_wp2_with fail
      refine (cut_any_some _ _ _ htm a b H.out).mono ?_
      rintro e w1 ⟨rfl, hb1⟩
      have hown1 := own_below hown hb1
      have hbel1 := bel_onto hbel hb1 hsz
      have hsz1 : w.heap.size ≤ w1.heap.size := by have := hb1.size; omega
      go_wp2_with (first
        | (at_builtin; refine wpList_push rfl _ _ 22 rfl w.heap.size 9 i0 (.string ByteArray.empty) 1 16 Tryz.underlying22 hi hz0 hz1 hz2 rfl (by decide) _ _ _ rfl hown1 _ _ rfl rfl rfl ?c1 ?c2 ?c3 hsz1 hbel1 ?_))
      case c1 => exact rfl
      case c2 => unfold maxLen; omega
      case c3 => omega
      intro v' w' hown' hg hbel' hsz'
      go_wp2
      go_roundw
      case rel =>
        refine ⟨S b, acc ++ [a], rfl, by rw [S_size]; omega, ?_, hbel', hsz', by show _ = _; rw [S_toList]; exact hch2.out⟩
        rw [List.map_append, List.length_append]
        exact hown'
      case measure => simpa [strSize] using hb2
end Go.Proofs.YtgfoaopfdpclhaaGreatDoor
