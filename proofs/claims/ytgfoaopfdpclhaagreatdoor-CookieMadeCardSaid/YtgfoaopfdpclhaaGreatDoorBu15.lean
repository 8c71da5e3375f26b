/-
  Joined texts: App Rows2 Item Keys.
-/
import Derived.Test.YtgfoaopfdpclhaaGreatDoorBu1
import Derived.Maps.AppendAt
import Derived.RegionTactic
import Derived.Deep.Slices
import Derived.ProofKit
import Derived.Deep.MidRow
import Derived.Laws.StructEq
import Derived.Lib.Bytealg
import Derived.Handy
import Derived.StillTailTactics
import Derived.Deep.RegionHeld3
namespace Go.Proofs.YtgfoaopfdpclhaaGreatDoor
open Go.RowKit
set_option linter.unusedVariables false
set_option maxRecDepth 100000

/-- Two slices that share no block. -/
def Apart (v u : Value) : Prop := ∀ g, v.ownBlock = some g → u.ownBlock ≠ some g
/-- A slice lies where another one lay, or in a new block. -/
def Moved (B : Nat) (v v' : Value) : Prop := v'.ownBlock = v.ownBlock ∨ ∃ g, v'.ownBlock = some g ∧ B ≤ g
theorem Apart.symm {v u : Value} (h : Apart v u) : Apart u v := fun g hg hv => h g hv hg
theorem Apart.moved {w : World} {B n sz : Nat} {e : TypeId} {v v' u : Value} {xs : List Value} (h : Apart v u) (hm : Moved w.heap.size v v') (hu : w.ownsRow B e sz u n xs) : Apart v' u := fun g hg hu' => by
  rcases hm with hm | ⟨k, hk, hle⟩
  · exact h g (hm ▸ hg) hu'
  · rw [hk] at hg
    obtain rfl : k = g := Option.some.inj hg
    have := (hu.lt _ hu').2
    omega
theorem Apart.kept {w w' : World} {B n sz : Nat} {e : TypeId} {v u : Value} {xs : List Value} (h : Apart v u) (hu : w.ownsRow B e sz u n xs) (hg : w.grownBy w' v.ownBlock) : w'.ownsRow B e sz u n xs := by
  refine hu.kept hg ?_
  cases hub : u.ownBlock with
  | none => exact .inl rfl
  | some g => exact .inr fun e => h g e.symm hub
theorem apart_none (u : Value) (n c : Nat) : Apart (.slice none n c) u := fun g hg => by simp [Value.ownBlock] at hg
theorem Moved.mono {B B' : Nat} {v v' : Value} (h : Moved B v v') (hB : B' ≤ B) : Moved B' v v' := by
  rcases h with h | ⟨g, h1, h2⟩
  · exact .inl h
  · exact .inr ⟨g, h1, by omega⟩

section
variable {P : Program} (w : World)
theorem run_append_nil (base : Nat) (t ty e : TypeId) (i : TypeInfo) (size : Nat) (ht : P.underlying t = some (.slice e)) (hi : P.info? e = some i)
    (v : Value) (n : Nat) (xs : List Value) (hown : w.ownsRow base e size v n xs) (c : Nat) : (Builtin.append_ #[t, t] ty #[v, .slice none 0 c]).run P w = .ok v w := by
  rcases hown.2 with ⟨rfl, rfl⟩ | ⟨g, cap, cur, rfl, _, _, hnc, _⟩
  · simp [Builtin.append_, run_underlying ht, sizeOf, typeInfo, hi, Builtin.lenOf, Builtin.firstCells]
  · simp [Builtin.append_, run_underlying ht, sizeOf, typeInfo, hi, Builtin.lenOf, Builtin.firstCells, hnc, storeCells]
theorem run_append_rd (base : Nat) (t ty e : TypeId) (i : TypeInfo) (z : Value) (size bytes : Nat) (ht : P.underlying t = some (.slice e)) (hi : P.info? e = some i) (hz : i.zero = some z)
    (hsize : i.size = size) (hby : i.bytes = bytes) (hzs : z.cells.size = size) (hsz : 0 < size)
    (v : Value) (n : Nat) (xs : List Value) (hown : w.ownsRow base e size v n xs)
    (A : Option Addr) (m c : Nat) (news : List Value) (hr : Rd w size (.slice A m c) m news) (h1 : ∀ u ∈ news, u.oneCell' = true)
    (h63 : n + m ≤ maxLen) (hbytes : (n + m) * bytes ≤ 140737488355328) (hbase : base ≤ w.heap.size) :
    ∃ v' w', (Builtin.append_ #[t, t] ty #[v, .slice A m c]).run P w = .ok v' w' ∧ w'.ownsRow base e size v' (n + m) (xs ++ news) ∧ w.grownBy w' v.ownBlock ∧ Moved w.heap.size v v' := by
  cases A with
  | none =>
    have hm : m = 0 := by
      rcases Nat.eq_zero_or_pos m with h0 | h0
      · exact h0
      · obtain ⟨b, off, h, _⟩ := hr.at_ h0
        cases h
    subst hm
    obtain rfl : news = [] := List.eq_nil_of_length_eq_zero (by simpa using hr.1)
    exact ⟨v, w, run_append_nil w base t ty e i size ht hi v n xs hown c, by simpa using hown, World.grownBy.refl w _, .inl rfl⟩
  | some ad =>
    have hnews : ∀ j u, news[j]? = some u → w.cell? (ad.add j) = some u := by
      intro j u hu
      have hj : j < news.length := (List.getElem?_eq_some_iff.1 hu).1
      have hm : 0 < m := by
        rcases Nat.eq_zero_or_pos m with h0 | h0
        · have := hr.1; rw [h0] at this; omega
        · exact h0
      obtain ⟨b, off, h, _, hc⟩ := hr.at_ hm
      obtain rfl := Option.some.inj h
      rw [add_none, hc j hj, hu]
    obtain ⟨v', w', h2, h3, h4, _, h5⟩ := run_append_own_at (P := P) w base t ty e i z size bytes ht hi hz hsize hby hzs hsz v n xs hown ad m c news hr.1 hnews h1 h63 hbytes hbase
    refine ⟨v', w', h2, h3, h4, ?_⟩
    rcases h5 with h5 | h5
    · exact .inl h5
    · exact .inr ⟨_, h5, Nat.le_refl _⟩
/-- A whole slice behind a row of the call's own. -/
theorem wpList_more {W : World} {ops : Array Oper} {rest : List Oper} {o : Oper} {a : Act} {Q : Exit → Act → World → Prop} (hgd : o.guard = none) (s x : Operand) (t : TypeId)
    (ho : o.op = .call { callee := .builtin .append, args := #[s, x], argTypes := #[t, t] })
    (B : Nat) (e : TypeId) (i : TypeInfo) (z : Value) (size bytes : Nat) (ht : P.underlying t = some (.slice e)) (hi : P.info? e = some i) (hz : i.zero = some z)
    (hsize : i.size = size) (hby : i.bytes = bytes) (hzs : z.cells.size = size) (hsz : 0 < size)
    (v : Value) (n : Nat) (xs : List Value) (hs : a.eval s = v) (hown : w.ownsRow B e size v n xs)
    (A : Option Addr) (m c : Nat) (news : List Value) (hx : a.eval x = .slice A m c) (hr : Rd w size (.slice A m c) m news) (h1 : ∀ u ∈ news, u.oneCell' = true)
    (h63 : n + m ≤ maxLen) (hbytes : (n + m) * bytes ≤ 140737488355328) (hbase : B ≤ w.heap.size) (hbel : Below B W w)
    (h : ∀ v' w', w'.ownsRow B e size v' (n + m) (xs ++ news) → w.grownBy w' v.ownBlock → Moved w.heap.size v v' → Below B W w' → B ≤ w'.heap.size → wpList P ops Q rest (a.put o.dst v') w') :
    wpList P ops Q (o :: rest) a w :=
  wpList_plain hgd fun K hK => by
    obtain ⟨v', w', h2, h3, h4, h5⟩ := run_append_rd (P := P) w B t o.type e i z size bytes ht hi hz hsize hby hzs hsz v n xs hown A m c news hr h1 h63 hbytes hbase
    unfold Oper.wp execOp
    simp only [ho, resolve, invoke, builtin, Sem.run_bind, Sem.run_pure, Result.andThen_ok, List.map_toArray, List.map_cons, List.map_nil, hs, hx, h2]
    exact hK _ _ (h v' w' h3 h4 h5 (hbel.grown h4 hbase (fun k hk => (hown.lt k hk).1)) (by have := h4.size; omega))
end
/-- One element more behind a row of the call's own, and where the row lies then. -/
theorem wpList_push_at {P : Program} {W w : World} {ops : Array Oper} {rest : List Oper} {o : Oper} {a : Act} {Q : Exit → Act → World → Prop} (hgd : o.guard = none) (s x : Operand) (t : TypeId)
    (ho : o.op = .call { callee := .builtin .append, args := #[s, x], argTypes := #[t, t] })
    (B : Nat) (e : TypeId) (i : TypeInfo) (z : Value) (size bytes : Nat) (ht : P.underlying t = some (.slice e)) (hi : P.info? e = some i) (hz : i.zero = some z)
    (hsize : i.size = size) (hby : i.bytes = bytes) (hzs : z.cells.size = size) (hsz : 0 < size)
    (v : Value) (n : Nat) (xs : List Value) (hs : a.eval s = v) (hown : w.ownsRow B e size v n xs)
    (cs : Array Value) (g : Nat) (hx : a.eval x = .slice (some ⟨g, 0, none⟩) 1 1) (hgw : w.heap.size = g) (hl : cs.size = size) (h1 : ∀ u ∈ cs.toList, u.oneCell' = true)
    (h63 : n + 1 ≤ maxLen) (hbytes : (n + 1) * bytes ≤ 140737488355328) (hbase : B ≤ w.heap.size) (hbel : Below B W w)
    (h : ∀ v' w', w'.ownsRow B e size v' (n + 1) (xs ++ cs.toList) → w.grownBy w' v.ownBlock → Moved w.heap.size v v' → Below B W w' → B ≤ w'.heap.size → wpList P ops Q rest (a.put o.dst v') w') :
    wpList P ops Q (o :: rest) a (w.alloc (.cells cs e)) := by
  subst hgw
  have hr : Rd (w.alloc (.cells cs e)) size (.slice (some ⟨w.heap.size, 0, none⟩) 1 1) 1 cs.toList := by
    refine ⟨by simp [hl], _, _, rfl, Nat.le_refl _, by simp [maxLen], .inr ⟨_, _, rfl, by simp, fun j hj => ?_⟩⟩
    rw [Nat.zero_add, cell_of_row _ w.heap.size j cs e (0, 0) (heap_alloc_new w _)]
    simp
  refine wpList_more (P := P) (W := W) _ hgd s x t ho B e i z size bytes ht hi hz hsize hby hzs hsz v n xs hs (hown.alloc _) _ 1 1 cs.toList hx hr h1 h63 hbytes (by simp; omega) (hbel.alloc hbase _) fun v' w' h3 h4 h5 h6 h7 => ?_
  refine h v' w' h3 ⟨h4.os, h4.tape, h4.output, by have := h4.size; simp at this; omega, fun k hk hne => ?_⟩ (h5.mono (by simp)) h6 h7
  rw [h4.block k (by simp; omega) hne]
  exact Below.heap_alloc w _ k hk
/-- The same at a step of a region that draws its order. -/
theorem step_push_at {P : Program} {W w : World} {ops : Array Oper} {o : Oper} {a : Act} {K : Act → World → Prop} {Q : Exit → Act → World → Prop} {E : Prop} (hgd : o.guard = none) (s x : Operand) (t : TypeId)
    (ho : o.op = .call { callee := .builtin .append, args := #[s, x], argTypes := #[t, t] })
    (B : Nat) (e : TypeId) (i : TypeInfo) (z : Value) (size bytes : Nat) (ht : P.underlying t = some (.slice e)) (hi : P.info? e = some i) (hz : i.zero = some z)
    (hsize : i.size = size) (hby : i.bytes = bytes) (hzs : z.cells.size = size) (hsz : 0 < size)
    (v : Value) (n : Nat) (xs : List Value) (hs : a.eval s = v) (hown : w.ownsRow B e size v n xs)
    (cs : Array Value) (g : Nat) (hx : a.eval x = .slice (some ⟨g, 0, none⟩) 1 1) (hgw : w.heap.size = g) (hl : cs.size = size) (h1 : ∀ u ∈ cs.toList, u.oneCell' = true)
    (h63 : n + 1 ≤ maxLen) (hbytes : (n + 1) * bytes ≤ 140737488355328) (hbase : B ≤ w.heap.size) (hbel : Below B W w)
    (h : ∀ v' w', w'.ownsRow B e size v' (n + 1) (xs ++ cs.toList) → w.grownBy w' v.ownBlock → Moved w.heap.size v v' → Below B W w' → B ≤ w'.heap.size → K (a.put o.dst v') w') :
    if Region.wanted o (yielded ops a.tmps) = true then Oper.wp P o a (w.alloc (.cells cs e)) K Q else E := by
  have hw : Region.wanted o (yielded ops a.tmps) = true := by simp [Region.wanted, hgd]
  rw [if_pos hw]
  subst hgw
  have hr : Rd (w.alloc (.cells cs e)) size (.slice (some ⟨w.heap.size, 0, none⟩) 1 1) 1 cs.toList := by
    refine ⟨by simp [hl], _, _, rfl, Nat.le_refl _, by simp [maxLen], .inr ⟨_, _, rfl, by simp, fun j hj => ?_⟩⟩
    rw [Nat.zero_add, cell_of_row _ w.heap.size j cs e (0, 0) (heap_alloc_new w _)]
    simp
  obtain ⟨v', w', h2, h3, h4, h5⟩ := run_append_rd (P := P) (w.alloc (.cells cs e)) B t o.type e i z size bytes ht hi hz hsize hby hzs hsz v n xs (hown.alloc _) _ 1 1 cs.toList hr h1 h63 hbytes (by simp; omega)
  unfold Oper.wp execOp
  simp only [ho, resolve, invoke, builtin, Sem.run_bind, Sem.run_pure, Result.andThen_ok, List.map_toArray, List.map_cons, List.map_nil, hs, hx, h2]
  have hg : w.grownBy w' v.ownBlock := ⟨h4.os, h4.tape, h4.output, by have := h4.size; simp at this; omega, fun k hk hne => by
    rw [h4.block k (by simp; omega) hne]
    exact Below.heap_alloc w _ k hk⟩
  exact h v' w' h3 hg (h5.mono (by simp)) (hbel.grown hg hbase (fun k hk => (hown.lt k hk).1)) (by have := hg.size; omega)

/-- A slice from an element on: where it lies. -/
def cutA (sz : Nat) (A : Option Addr) (c l : Nat) : Option Addr := if c = l then A else A.map (·.add (l * sz))
theorem Rd.cut {w : World} {sz n c l : Nat} {A : Option Addr} {xs : List Value} (h : Rd w sz (.slice A n c) n xs) (hl : l ≤ n) : Rd w sz (.slice (cutA sz A c l) (n - l) (c - l)) (n - l) (xs.drop (l * sz)) := by
  have hc := h.cap
  have h1 := h.1
  refine ⟨by rw [List.length_drop, h1, Nat.sub_mul], _, _, rfl, by omega, by omega, ?_⟩
  by_cases hn : n - l = 0
  · exact .inl hn
  · obtain ⟨b, off, rfl, hb, hx⟩ := h.at_ (by omega)
    refine .inr ⟨b, off + l * sz, ?_, hb, fun j hj => ?_⟩
    · unfold cutA
      rw [if_neg (by omega)]
      simp only [Option.map_some, add_none]
    · rw [List.length_drop] at hj
      have := hx (l * sz + j) (by omega)
      rw [Nat.add_assoc, this, List.getElem?_drop]
theorem Rd.tail {w : World} {sz n c : Nat} {A : Option Addr} {xs ys : List Value} (hl : xs.length = sz) (h : Rd w sz (.slice A (n + 1) c) (n + 1) (xs ++ ys)) : Rd w sz (.slice (cutA sz A c 1) n (c - 1)) n ys := by
  have := h.cut (l := 1) (by omega)
  rw [Nat.one_mul, ← hl, List.drop_left] at this
  rw [← hl]
  exact this
theorem Rd.upto {w : World} {sz n c l : Nat} {A : Option Addr} {xs : List Value} (h : Rd w sz (.slice A n c) n xs) (hl : l ≤ n) : Rd w sz (.slice A l c) l (xs.take (l * sz)) := by
  have hc := h.cap
  have h1 := h.1
  have hm : l * sz ≤ n * sz := Nat.mul_le_mul_right _ hl
  refine ⟨by rw [List.length_take, h1]; omega, _, _, rfl, by omega, by omega, ?_⟩
  by_cases hn : l = 0
  · exact .inl hn
  · obtain ⟨b, off, rfl, hb, hx⟩ := h.at_ (by omega)
    refine .inr ⟨b, off, rfl, hb, fun j hj => ?_⟩
    rw [List.length_take] at hj
    rw [hx j (by omega), List.getElem?_take_of_lt (by omega)]
section
variable {P : Program} (w : World)
theorem run_cut (t e : TypeId) (sz : Nat) (ht : P.underlying t = some (.slice e)) (hi : (P.info? e).map (·.size) = some sz) (A : Option Addr) (n c : Nat) (l : Int) (h0 : 0 ≤ l) (h1 : l ≤ n) :
    (Instr.sliceAt t (.slice A n c) (some (.int .i64 l)) none none).run P w = .ok (.slice (cutA sz A c l.toNat) (n - l.toNat) (c - l.toNat)) w := by
  obtain ⟨i, hi1, hi2⟩ := Option.map_eq_some_iff.1 hi
  simp [Instr.sliceAt, Instr.slice, Instr.sliceBounds, run_underlying ht, sizeOf, typeInfo, hi1, hi2, run_sliceBound _ _ _ _ _ h0 h1, cutA]
theorem run_upto (t e : TypeId) (sz : Nat) (ht : P.underlying t = some (.slice e)) (hi : (P.info? e).map (·.size) = some sz) (A : Option Addr) (n c : Nat) (h : Int) (h0 : 0 ≤ h) (h1 : h ≤ c) :
    (Instr.sliceAt t (.slice A n c) none (some (.int .i64 h)) none).run P w = .ok (.slice A h.toNat c) w := by
  obtain ⟨i, hi1, hi2⟩ := Option.map_eq_some_iff.1 hi
  have e0 : ¬ c = 0 → A.map (·.add 0) = A := fun _ => by
    cases A with
    | none => rfl
    | some a => simp [Addr.add]
  simp [Instr.sliceAt, Instr.slice, Instr.sliceBounds, run_underlying ht, sizeOf, typeInfo, hi1, run_sliceBound _ _ _ _ _ h0 h1]
  exact e0
end
end Go.Proofs.YtgfoaopfdpclhaaGreatDoor
namespace Go.Proofs.YtgfoaopfdpclhaaGreatDoor
open Go.RowKit Go.Deep Go.WideShapes
set_option linter.unusedVariables false
set_option maxRecDepth 100000

/-- A slice that came in, and what it reads as. -/
structure SlArg (α : Type) where
  A : Option Addr
  n : Nat
  c : Nat
  l : List α

theorem flat_len {α : Type} {sz : Nat} (f : α → List Value) (hf : ∀ q, (f q).length = sz) (l : List α) : (l.flatMap f).length = l.length * sz := by
  induction l with
  | nil => simp
  | cons x r ih => rw [List.flatMap_cons, List.length_append, ih, hf, List.length_cons, Nat.add_mul]; omega
theorem flat_at {α : Type} {sz : Nat} (f : α → List Value) (hf : ∀ q, (f q).length = sz) (l : List α) {i j : Nat} (hi : i < l.length) (hj : j < sz) : (l.flatMap f)[i * sz + j]? = (f l[i])[j]? := by
  induction l generalizing i with
  | nil => simp at hi
  | cons x r ih =>
    rw [List.flatMap_cons]
    cases i with
    | zero => rw [Nat.zero_mul, Nat.zero_add, List.getElem?_append_left (by rw [hf]; exact hj)]; rfl
    | succ i =>
      rw [List.getElem?_append_right (by rw [hf, Nat.add_mul]; omega), hf, show (i + 1) * sz + j - sz = i * sz + j by rw [Nat.add_mul]; omega]
      exact ih (by simpa using hi)
theorem flat_snoc {α : Type} (f : α → List Value) (l : List α) (x : α) : (l ++ [x]).flatMap f = l.flatMap f ++ f x := by simp
theorem flat_take {α : Type} (f : α → List Value) (l : List α) (k : Nat) (h : k < l.length) : (l.take (k + 1)).flatMap f = (l.take k).flatMap f ++ f l[k] := by
  rw [List.take_succ_eq_append_getElem h, flat_snoc]
theorem list_of {α : Type} {p : Nat → α → Prop} (n : Nat) (h : ∀ i, i < n → ∃ q, p i q) : ∃ l : List α, l.length = n ∧ ∀ i (hi : i < l.length), p i l[i] := by
  induction n with
  | zero => exact ⟨[], rfl, fun i hi => absurd hi (by simp)⟩
  | succ n ih =>
    obtain ⟨l, hl, hp⟩ := ih (fun i hi => h i (by omega))
    obtain ⟨q, hq⟩ := h n (by omega)
    refine ⟨l ++ [q], by simp [hl], fun i hi => ?_⟩
    by_cases e : i < l.length
    · rw [List.getElem_append_left e]; exact hp i e
    · have hi2 : i = n := by simp at hi; omega
      subst hi2
      rw [List.getElem_append_right (by omega)]
      simpa using hq
theorem rd_of_cells {α : Type} {sz : Nat} (f : α → List Value) (hf : ∀ q, (f q).length = sz) (hsz : 0 < sz) {p : α → Prop} {w : World} {a : Addr} {len cap : Nat} (hlc : len ≤ cap) (hcm : cap ≤ maxLen)
    (h : ∀ i, i < len → ∃ q, p q ∧ ∀ j, j < sz → w.cell? (a.add (i * sz + j)) = (f q)[j]?) :
    ∃ l : List α, l.length = len ∧ (∀ q ∈ l, p q) ∧ Rd w sz (.slice (some a) len cap) len (l.flatMap f) := by
  obtain ⟨l, hl, hp⟩ := list_of len h
  refine ⟨l, hl, fun q hq => ?_, ?_, some a, cap, rfl, hlc, hcm, ?_⟩
  · obtain ⟨i, hi, rfl⟩ := List.getElem_of_mem hq
    exact (hp i hi).1
  · rw [flat_len f hf, hl]
  · by_cases h0 : len = 0
    · exact .inl h0
    · have hc0 := (hp 0 (by omega)).2 0 hsz
      have he : (f l[0])[0]? = some ((f l[0])[0]'(by rw [hf]; exact hsz)) := List.getElem?_eq_getElem _
      rw [he] at hc0
      obtain ⟨b, off, spot⟩ := a
      have hspot : spot = none := by simpa [Addr.add] using World.cell?_spot hc0
      subst hspot
      refine .inr ⟨b, off, rfl, ?_, fun j hj => ?_⟩
      · have := World.block_lt_of_cell? w _ hc0
        rw [add_none] at this
        exact this
      · rw [flat_len f hf] at hj
        have hq : j / sz < l.length := Nat.div_lt_of_lt_mul (by rw [Nat.mul_comm]; exact hj)
        have hr : j % sz < sz := Nat.mod_lt _ hsz
        have e : j / sz * sz + j % sz = j := by rw [Nat.mul_comm]; exact Nat.div_add_mod j sz
        have := (hp (j / sz) hq).2 (j % sz) hr
        rw [add_none, e] at this
        rw [this]
        have h2 := flat_at f hf l hq hr
        rw [e] at h2
        exact h2.symm
end Go.Proofs.YtgfoaopfdpclhaaGreatDoor
namespace Go.Proofs.YtgfoaopfdpclhaaGreatDoor
open Go.RowKit
set_option linter.unusedVariables false
set_option maxRecDepth 100000

structure Ky where
  n : List UInt8
  d : List UInt8
  p : List UInt8
deriving DecidableEq
structure Ck where
  v : List UInt8
  ho : Bool
  se : Bool
  ht : Bool
  pe : Bool
  ex : Int
  cr : Int
  ac : Int
deriving DecidableEq
structure It where
  k : Ky
  c : Ck
deriving DecidableEq
def cK (k : Ky) : List Value := [strV k.n, strV k.d, strV k.p]
def cCk (c : Ck) : List Value := [strV c.v, .bool c.ho, .bool c.se, .bool c.ht, .bool c.pe, .int .i64 c.ex, .int .i64 c.cr, .int .i64 c.ac]
def cI (x : It) : List Value := cK x.k ++ cCk x.c
abbrev vK (k : Ky) : Value := .agg (cK k).toArray
abbrev vCk (c : Ck) : Value := .agg (cCk c).toArray
abbrev vI (x : It) : Value := .agg (cI x).toArray
def k0 : Ky := ⟨[], [], []⟩
def ck0 : Ck := ⟨[], false, false, false, false, 0, 0, 0⟩
/-- No item of a key. -/
def noneI (k : Ky) : It := ⟨k, ck0⟩
@[simp, go_sem] theorem cK_len (k : Ky) : (cK k).length = 3 := Eq.trans rfl rfl
@[simp, go_sem] theorem cCk_len (k : Ck) : (cCk k).length = 8 := Eq.trans rfl rfl
@[simp, go_sem] theorem cI_len (k : It) : (cI k).length = 11 := Eq.trans rfl rfl
@[simp, go_sem] theorem cK_0 (k : Ky) : (cK k)[0]? = some (.string (S k.n)) := rfl
@[simp, go_sem] theorem cK_1 (k : Ky) : (cK k)[1]? = some (.string (S k.d)) := rfl
@[simp, go_sem] theorem cK_2 (k : Ky) : (cK k)[2]? = some (.string (S k.p)) := rfl
@[simp, go_sem] theorem cI_0 (k : It) : (cI k)[0]? = some (.string (S k.k.n)) := rfl
@[simp, go_sem] theorem cI_1 (k : It) : (cI k)[1]? = some (.string (S k.k.d)) := rfl
@[simp, go_sem] theorem cI_2 (k : It) : (cI k)[2]? = some (.string (S k.k.p)) := rfl
@[simp, go_sem] theorem cI_3 (k : It) : (cI k)[3]? = some (.string (S k.c.v)) := rfl
@[simp, go_sem] theorem cK_g0 (k : Ky) (h : 0 < (cK k).length) : (cK k)[0] = .string (S k.n) := rfl
@[simp, go_sem] theorem cK_g1 (k : Ky) (h : 1 < (cK k).length) : (cK k)[1] = .string (S k.d) := rfl
@[simp, go_sem] theorem cK_g2 (k : Ky) (h : 2 < (cK k).length) : (cK k)[2] = .string (S k.p) := rfl
@[simp, go_sem] theorem cI_g0 (k : It) (h : 0 < (cI k).length) : (cI k)[0] = .string (S k.k.n) := rfl
@[simp, go_sem] theorem cI_g1 (k : It) (h : 1 < (cI k).length) : (cI k)[1] = .string (S k.k.d) := rfl
@[simp, go_sem] theorem cI_g2 (k : It) (h : 2 < (cI k).length) : (cI k)[2] = .string (S k.k.p) := rfl
@[simp, go_sem] theorem cI_g3 (k : It) (h : 3 < (cI k).length) : (cI k)[3] = .string (S k.c.v) := rfl
@[simp, go_sem] theorem cI_g4 (k : It) (h : 4 < (cI k).length) : (cI k)[4] = .bool k.c.ho := rfl
@[simp, go_sem] theorem cI_g5 (k : It) (h : 5 < (cI k).length) : (cI k)[5] = .bool k.c.se := rfl
@[simp, go_sem] theorem cI_g6 (k : It) (h : 6 < (cI k).length) : (cI k)[6] = .bool k.c.ht := rfl
@[simp, go_sem] theorem cI_g7 (k : It) (h : 7 < (cI k).length) : (cI k)[7] = .bool k.c.pe := rfl
@[simp, go_sem] theorem cI_g8 (k : It) (h : 8 < (cI k).length) : (cI k)[8] = .int .i64 k.c.ex := rfl
@[simp, go_sem] theorem cI_g9 (k : It) (h : 9 < (cI k).length) : (cI k)[9] = .int .i64 k.c.cr := rfl
@[simp, go_sem] theorem cI_g10 (k : It) (h : 10 < (cI k).length) : (cI k)[10] = .int .i64 k.c.ac := rfl
theorem strV_inj {a b : List UInt8} (h : strV a = strV b) : a = b := by
  unfold strV at h
  injection h with h
  rw [← S_toList a, h, S_toList]
theorem cK_inj {a b : Ky} (h : cK a = cK b) : a = b := by
  cases a; cases b
  simp only [cK, List.cons.injEq, and_true] at h
  obtain ⟨h1, h2, h3⟩ := h
  rw [strV_inj h1, strV_inj h2, strV_inj h3]
theorem cCk_inj {a b : Ck} (h : cCk a = cCk b) : a = b := by
  cases a; cases b
  simp only [cCk, List.cons.injEq, and_true, Value.bool.injEq, Value.int.injEq, true_and] at h
  obtain ⟨h1, h2, h3, h4, h5, h6, h7, h8⟩ := h
  subst h2 h3 h4 h5 h6 h7 h8
  rw [strV_inj h1]
theorem cI_inj {a b : It} (h : cI a = cI b) : a = b := by
  cases a; cases b
  have h := List.append_inj h rfl
  obtain ⟨h1, h2⟩ := h
  have e1 := cK_inj h1
  have e2 := cCk_inj h2
  simp only at e1 e2
  rw [e1, e2]
theorem cK_one (k : Ky) : ∀ u ∈ (cK k).toArray.toList, u.oneCell' = true := by intro u hu; simp [cK] at hu; rcases hu with rfl | rfl | rfl <;> rfl
theorem cI_one (k : It) : ∀ u ∈ (cI k).toArray.toList, u.oneCell' = true := by
  intro u hu; simp [cI, cK, cCk] at hu; rcases hu with rfl | rfl | rfl | rfl | rfl | rfl | rfl | rfl | rfl | rfl | rfl <;> rfl

/-- What lies at a place, read as one of those that f lays in cells. -/
noncomputable def pickOf {α : Type} (p : α → Prop) : Option α := open Classical in if h : ∃ x, p x then some h.choose else none
noncomputable def rdAt {α : Type} (f : α → List Value) (w : World) (b o : Nat) : Option α := pickOf fun x => w.rangeAt b o (f x)
theorem range_inj {w : World} {b o : Nat} {l m : List Value} (hl : l.length = m.length) (h : w.rangeAt b o l) (h' : w.rangeAt b o m) : l = m := by
  refine List.ext_getElem hl fun i h1 h2 => ?_
  have e1 := h i _ (List.getElem?_eq_getElem h1)
  have e2 := h' i _ (List.getElem?_eq_getElem h2)
  rw [e1] at e2
  exact Option.some.inj e2
theorem rdAt_of {α : Type} {f : α → List Value} (hi : ∀ x y, f x = f y → x = y) (hl : ∀ x y, (f x).length = (f y).length) {w : World} {b o : Nat} {x : α} (h : w.rangeAt b o (f x)) : rdAt f w b o = some x := by
  have hex : ∃ x, w.rangeAt b o (f x) := ⟨x, h⟩
  unfold rdAt pickOf
  rw [dif_pos hex]
  exact congrArg some (hi _ _ (range_inj (hl _ _) hex.choose_spec h))
theorem rdAt_range {α : Type} {f : α → List Value} {w : World} {b o : Nat} {x : α} (h : rdAt f w b o = some x) : w.rangeAt b o (f x) := by
  unfold rdAt pickOf at h
  split at h
  · rename_i hex
    have := hex.choose_spec
    rw [Option.some.inj h] at this
    exact this
  · cases h
theorem rdAt_lift {α : Type} {f : α → List Value} {w w' : World} {b o b' o' : Nat} (h : ∀ x, w.rangeAt b o (f x) ↔ w'.rangeAt b' o' (f x)) : rdAt f w' b' o' = rdAt f w b o := by
  unfold rdAt
  rw [funext fun x => propext (h x)]
theorem range_cells {w w' : World} {b : Nat} (h : ∀ o, w'.cell? ⟨b, o, none⟩ = w.cell? ⟨b, o, none⟩) (o : Nat) (l : List Value) : w'.rangeAt b o l ↔ w.rangeAt b o l := by
  unfold World.rangeAt
  simp only [h]
theorem rdAt_cells {α : Type} {f : α → List Value} {w w' : World} {b o : Nat} (h : ∀ o, w'.cell? ⟨b, o, none⟩ = w.cell? ⟨b, o, none⟩) : rdAt f w' b o = rdAt f w b o := rdAt_lift fun x => (range_cells h o (f x)).symm
@[go_sem] theorem rdAt_drew {α : Type} (f : α → List Value) (w : World) (b o : Nat) : rdAt f w.drew b o = rdAt f w b o := rdAt_cells fun o => by simp
@[go_sem] theorem rdAt_alloc {α : Type} (f : α → List Value) (w : World) (ob : Obj) (b o : Nat) (h : b < w.heap.size) : rdAt f (w.alloc ob) b o = rdAt f w b o := rdAt_cells fun o => World.cell?_alloc_lt _ _ _ h
theorem rdAt_below {α : Type} {f : α → List Value} {w w' : World} (hb : Below w.heap.size w w') {b : Nat} (h : b < w.heap.size) (o : Nat) : rdAt f w' b o = rdAt f w b o := rdAt_cells fun o => hb.cell (p := ⟨b, o, none⟩) h
theorem rdAt_kept {α : Type} {f : α → List Value} {w w' : World} (hb : Below w.heap.size w w') {b : Nat} (h : b < w.heap.size) {o : Nat} {x : α} (hx : rdAt f w b o = some x) : rdAt f w' b o = some x := (rdAt_below hb h o).trans hx
theorem range_blk {w : World} {g t : Nat} {fr : Nat × Nat} {l : List Value} (h : w.heap[g]? = some (.cells l.toArray t fr)) : w.rangeAt g 0 l := fun j v hv => by
  rw [Nat.zero_add, cell_of_row w g j _ t fr h]
  simpa using hv
theorem range_part {w : World} {b o : Nat} {l m r : List Value} (h : w.rangeAt b o (l ++ m ++ r)) : w.rangeAt b (o + l.length) m := fun j v hv => by
  rw [Nat.add_assoc]
  refine h (l.length + j) v ?_
  have hj : j < m.length := (List.getElem?_eq_some_iff.1 hv).1
  rw [List.append_assoc, List.getElem?_append_right (by omega), Nat.add_sub_cancel_left, List.getElem?_append_left hj, hv]

/-- The key, the item at a place. -/
noncomputable def kyAt (w : World) (b o : Nat) : Option Ky := rdAt cK w b o
noncomputable def itAt (w : World) (b o : Nat) : Option It := rdAt cI w b o
theorem kyAt_of {w : World} {b o : Nat} {k : Ky} (h : w.rangeAt b o (cK k)) : kyAt w b o = some k := rdAt_of (fun _ _ => cK_inj) (fun _ _ => rfl) h
theorem itAt_of {w : World} {b o : Nat} {k : It} (h : w.rangeAt b o (cI k)) : itAt w b o = some k := rdAt_of (fun _ _ => cI_inj) (fun _ _ => rfl) h
theorem kyAt_it {w : World} {b o : Nat} {x : It} (h : itAt w b o = some x) : kyAt w b o = some x.k := kyAt_of (range_part (l := []) (m := cK x.k) (r := cCk x.c) (show w.rangeAt b o ([] ++ cK x.k ++ cCk x.c) from rdAt_range (f := cI) h))
@[go_sem] theorem kyAt_drew (w : World) (b o : Nat) : kyAt w.drew b o = kyAt w b o := rdAt_drew _ _ _ _
@[go_sem] theorem itAt_drew (w : World) (b o : Nat) : itAt w.drew b o = itAt w b o := rdAt_drew _ _ _ _
@[go_sem] theorem kyAt_alloc (w : World) (ob : Obj) (b o : Nat) (h : b < w.heap.size) : kyAt (w.alloc ob) b o = kyAt w b o := rdAt_alloc _ _ _ _ _ h
@[go_sem] theorem itAt_alloc (w : World) (ob : Obj) (b o : Nat) (h : b < w.heap.size) : itAt (w.alloc ob) b o = itAt w b o := rdAt_alloc _ _ _ _ _ h
@[go_sem] theorem kyAt_new (w : World) (k : Ky) (t g : Nat) (hg : w.heap.size = g) : kyAt (w.alloc (.cells (cK k).toArray t)) g 0 = some k := by
  subst hg; exact kyAt_of (range_blk (heap_alloc_new w _))
@[go_sem] theorem itAt_new (w : World) (k : It) (t g : Nat) (hg : w.heap.size = g) : itAt (w.alloc (.cells (cI k).toArray t)) g 0 = some k := by
  subst hg; exact itAt_of (range_blk (heap_alloc_new w _))
@[go_sem] theorem kyAt_newI (w : World) (k : It) (t g : Nat) (hg : w.heap.size = g) : kyAt (w.alloc (.cells (cI k).toArray t)) g 0 = some k.k := kyAt_it (itAt_new w k t g hg)
theorem ky_cells {w : World} {b o : Nat} {k : Ky} (h : kyAt w b o = some k) : w.cell? ⟨b, o, none⟩ = some (.string (S k.n)) ∧ w.cell? ⟨b, o + 1, none⟩ = some (.string (S k.d)) ∧ w.cell? ⟨b, o + 2, none⟩ = some (.string (S k.p)) :=
  ⟨rdAt_range h 0 _ rfl, rdAt_range h 1 _ rfl, rdAt_range h 2 _ rfl⟩

theorem it_lt {w : World} {b o : Nat} {x : It} (h : itAt w b o = some x) : b < w.heap.size := World.block_lt_of_cell? w _ (ky_cells (kyAt_it h)).1
theorem ky_lt {w : World} {b o : Nat} {x : Ky} (h : kyAt w b o = some x) : b < w.heap.size := World.block_lt_of_cell? w _ (ky_cells h).1
/-- The items of a row. -/
theorem Rd.rows {α : Type} {f : α → List Value} {sz : Nat} (hf : ∀ q, (f q).length = sz) {w : World} {n c : Nat} {A : Option Addr} {l : List α} (hsz : 0 < sz) (h : Rd w sz (.slice A n c) n (l.flatMap f)) : l.length = n := by
  have := h.1
  rw [flat_len f hf] at this
  exact Nat.eq_of_mul_eq_mul_right hsz this
theorem Rd.range {α : Type} {f : α → List Value} {sz : Nat} (hf : ∀ q, (f q).length = sz) {w : World} {n c : Nat} {A : Option Addr} {l : List α} (hsz : 0 < sz) (h : Rd w sz (.slice A n c) n (l.flatMap f)) {k : Nat} (hk : k < l.length) :
    ∃ b off, A = some ⟨b, off, none⟩ ∧ b < w.heap.size ∧ ∀ j (hj : j < l.length), w.rangeAt b (off + j * sz) (f l[j]) := by
  have hl := h.rows hf hsz
  obtain ⟨b, off, hA, hb, hc⟩ := h.at_ (by omega)
  refine ⟨b, off, hA, hb, fun j hj i v hv => ?_⟩
  have hi : i < sz := by have := (List.getElem?_eq_some_iff.1 hv).1; rw [hf] at this; exact this
  have hji : j * sz + i < l.length * sz := by
    have : (j + 1) * sz ≤ l.length * sz := Nat.mul_le_mul_right _ hj
    rw [Nat.add_mul] at this
    omega
  rw [Nat.add_assoc, hc (j * sz + i) (by rw [flat_len f hf]; exact hji), flat_at f hf l hj hi]
  exact hv
theorem Rd.items {w : World} {n c : Nat} {A : Option Addr} {l : List It} (h : Rd w 11 (.slice A n c) n (l.flatMap cI)) {k : Nat} (hk : k < l.length) :
    ∃ b off, A = some ⟨b, off, none⟩ ∧ b < w.heap.size ∧ ∀ j (hj : j < l.length), itAt w b (off + j * 11) = some l[j] ∧ kyAt w b (off + j * 11) = some l[j].k := by
  obtain ⟨b, off, hA, hb, hc⟩ := h.range (sz := 11) (fun q => rfl) (by decide) hk
  exact ⟨b, off, hA, hb, fun j hj => ⟨itAt_of (hc j hj), kyAt_it (itAt_of (hc j hj))⟩⟩

section
variable (w : World)
/-- A key, an item is read whole. -/
def loadK (a : Addr) : Sem Value := loadVar 30 a
def loadI (a : Addr) : Sem Value := loadVar 34 a
def stuckK (a : Addr) : Sem Value := loadVar 30 a
def stuckI (a : Addr) : Sem Value := loadVar 34 a
@[go_sem ↓] theorem to_loadK (a : Addr) : loadVar 30 a = loadK a := rfl
@[go_sem ↓] theorem to_loadI (a : Addr) : loadVar 34 a = loadI a := rfl
@[go_sem] theorem run_loadK (b o : Nat) : (loadK ⟨b, o, none⟩).run Tryz.prog w = match kyAt w b o with
    | some k => .ok (vK k) w
    | none => (stuckK ⟨b, o, none⟩).run Tryz.prog w := by
  cases h : kyAt w b o with
  | none => rfl
  | some k =>
    have hu : ∃ d, Tryz.prog.underlying 30 = some d ∧ d.isRow = true := ⟨.struct (Tryz.prog.fieldsOf 30), by kernel_rfl, rfl⟩
    obtain ⟨d, hd, hr⟩ := hu
    exact run_loadVar_mid w b o 30 (cK k) d (rdAt_range h) hd hr (by kernel_rfl)
@[go_sem] theorem run_loadI (b o : Nat) : (loadI ⟨b, o, none⟩).run Tryz.prog w = match itAt w b o with
    | some k => .ok (vI k) w
    | none => (stuckI ⟨b, o, none⟩).run Tryz.prog w := by
  cases h : itAt w b o with
  | none => rfl
  | some k =>
    have hu : ∃ d, Tryz.prog.underlying 34 = some d ∧ d.isRow = true := ⟨.struct (Tryz.prog.fieldsOf 34), by kernel_rfl, rfl⟩
    obtain ⟨d, hd, hr⟩ := hu
    exact run_loadVar_mid w b o 34 (cI k) d (rdAt_range h) hd hr (by kernel_rfl)
end
end Go.Proofs.YtgfoaopfdpclhaaGreatDoor
namespace Go.Proofs.YtgfoaopfdpclhaaGreatDoor
open Go.RowKit
set_option linter.unusedVariables false
set_option maxRecDepth 100000

/-- Less, as texts of bytes are. -/
def ltB (a b : List UInt8) : Bool := Op.bytesLess a b
theorem ltB_of (a b : List UInt8) : Op.bytesLess a b = ltB a b := rfl
def lessK (a b : Ky) : Bool := if a.n ≠ b.n then ltB a.n b.n else if a.d ≠ b.d then ltB a.d b.d else ltB a.p b.p

theorem compareB_lt : ∀ a b : List UInt8, decide (Lib.compareBytes a b < 0) = ltB a b
  | [], [] => rfl
  | [], _ :: _ => rfl
  | _ :: _, [] => rfl
  | x :: a, y :: b => by
    have ih := compareB_lt a b
    unfold ltB at ih ⊢
    unfold Lib.compareBytes Op.bytesLess
    by_cases h : x < y
    · simp [h]
    · by_cases h2 : y < x
      · have : ¬ x = y := fun e => by subst e; exact UInt8.lt_irrefl x h2
        simp [h, h2, this]
      · have : x = y := by
          apply UInt8.le_antisymm
          · exact UInt8.not_lt.1 h2
          · exact UInt8.not_lt.1 h
        simp [this, ih]
theorem compareB_eq : ∀ a b : List UInt8, Lib.compareBytes a b = 0 ↔ a = b
  | [], [] => by simp [Lib.compareBytes]
  | [], _ :: _ => by simp [Lib.compareBytes]
  | _ :: _, [] => by simp [Lib.compareBytes]
  | x :: a, y :: b => by
    have ih := compareB_eq a b
    unfold Lib.compareBytes
    by_cases h : x < y
    · have : ¬ x = y := fun e => by subst e; exact UInt8.lt_irrefl x h
      simp [h, this]
    · by_cases h2 : y < x
      · have : ¬ x = y := fun e => by subst e; exact UInt8.lt_irrefl x h2
        simp [h, h2, this]
      · have : x = y := by
          apply UInt8.le_antisymm
          · exact UInt8.not_lt.1 h2
          · exact UInt8.not_lt.1 h
        simp [this, ih]
/-- Which of two texts is ahead, as a number. -/
def cmpB (a b : List UInt8) : Int := Lib.compareBytes a b
/-- The first of three numbers that is not 0. -/
def orI (a b c : Int) : Int := if a ≠ 0 then a else if b ≠ 0 then b else c
theorem orI_1 {a b c : Int} (h : (a != 0) = true) : orI a b c = a := by unfold orI; rw [if_pos (by simpa using h)]
theorem orI_2 {a b c : Int} (h : (a != 0) = false) (h2 : (b != 0) = true) : orI a b c = b := by
  unfold orI; rw [if_neg (by simpa using h), if_pos (by simpa using h2)]
theorem orI_3 {a b c : Int} (h : (a != 0) = false) (h2 : (b != 0) = false) : orI a b c = c := by
  unfold orI; rw [if_neg (by simpa using h), if_neg (by simpa using h2)]
theorem orI_keys (a b : Ky) : decide (orI (cmpB a.n b.n) (cmpB a.d b.d) (cmpB a.p b.p) < 0) = lessK a b := by
  unfold lessK orI cmpB
  simp only [← compareB_eq, ← compareB_lt, ne_eq]
  split
  · rfl
  · split <;> rfl
def cmpK (a b : Ky) : Int := orI (cmpB a.n b.n) (cmpB a.d b.d) (cmpB a.p b.p)
end Go.Proofs.YtgfoaopfdpclhaaGreatDoor
