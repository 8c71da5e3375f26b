/-
  Rows that a call makes, of any elements: one element more, a whole slice more; rows that lie apart. No function of the program is named here.
-/
import Derived.Test.YtgfoaopfdpclhaaSlices
import Derived.Maps.AppendAt
import Derived.RegionTactic
namespace Go.Proofs.Ytgfoaopfdpclhaa
open Go.RowKit
set_option linter.unusedVariables false

/-- Two slices that share no block. -/
def Apart (v u : Value) : Prop := ∀ g, v.ownBlock = some g → u.ownBlock ≠ some g
/-- A slice lies where another one lay, or in a new block. -/
def Moved (B : Nat) (v v' : Value) : Prop := v'.ownBlock = v.ownBlock ∨ ∃ g, v'.ownBlock = some g ∧ B ≤ g
theorem Apart.symm {v u : Value} (h : Apart v u) : Apart u v := fun g hg hv => h g hv hg
theorem Apart.moved {w : World} {B n sz : Nat} {e : TypeId} {v v' u : Value} {xs : List Value} (h : Apart v u) (hm : Moved w.heap.size v v') (hu : w.ownsRow B e sz u n xs) : Apart v' u := fun g hg hu' => by
  rcases hm with hm | ⟨k, hk, hle⟩
  · exact h g (hm ▸ hg) hu'
  · rw [hk] at hg
    obtain rfl : k = g := Option.some.inj hg
    have := (hu.lt _ hu').2
    omega
theorem Apart.kept {w w' : World} {B n sz : Nat} {e : TypeId} {v u : Value} {xs : List Value} (h : Apart v u) (hu : w.ownsRow B e sz u n xs) (hg : w.grownBy w' v.ownBlock) : w'.ownsRow B e sz u n xs := by
  refine hu.kept hg ?_
  cases hub : u.ownBlock with
  | none => exact .inl rfl
  | some g => exact .inr fun e => h g e.symm hub
theorem apart_none (u : Value) (n c : Nat) : Apart (.slice none n c) u := fun g hg => by simp [Value.ownBlock] at hg
theorem Moved.mono {B B' : Nat} {v v' : Value} (h : Moved B v v') (hB : B' ≤ B) : Moved B' v v' := by
  rcases h with h | ⟨g, h1, h2⟩
  · exact .inl h
  · exact .inr ⟨g, h1, by omega⟩

section
variable {P : Program} (w : World)
theorem run_append_nil (base : Nat) (t ty e : TypeId) (i : TypeInfo) (size : Nat) (ht : P.underlying t = some (.slice e)) (hi : P.info? e = some i)
    (v : Value) (n : Nat) (xs : List Value) (hown : w.ownsRow base e size v n xs) (c : Nat) : (Builtin.append_ #[t, t] ty #[v, .slice none 0 c]).run P w = .ok v w := by
  rcases hown.2 with ⟨rfl, rfl⟩ | ⟨g, cap, cur, rfl, _, _, hnc, _⟩
  · simp [Builtin.append_, run_underlying ht, sizeOf, typeInfo, hi, Builtin.lenOf, Builtin.firstCells]
  · simp [Builtin.append_, run_underlying ht, sizeOf, typeInfo, hi, Builtin.lenOf, Builtin.firstCells, hnc, storeCells]
theorem run_append_rd (base : Nat) (t ty e : TypeId) (i : TypeInfo) (z : Value) (size bytes : Nat) (ht : P.underlying t = some (.slice e)) (hi : P.info? e = some i) (hz : i.zero = some z)
    (hsize : i.size = size) (hby : i.bytes = bytes) (hzs : z.cells.size = size) (hsz : 0 < size)
    (v : Value) (n : Nat) (xs : List Value) (hown : w.ownsRow base e size v n xs)
    (A : Option Addr) (m c : Nat) (news : List Value) (hr : Rd w size (.slice A m c) m news) (h1 : ∀ u ∈ news, u.oneCell' = true)
    (h63 : n + m ≤ maxLen) (hbytes : (n + m) * bytes ≤ 140737488355328) (hbase : base ≤ w.heap.size) :
    ∃ v' w', (Builtin.append_ #[t, t] ty #[v, .slice A m c]).run P w = .ok v' w' ∧ w'.ownsRow base e size v' (n + m) (xs ++ news) ∧ w.grownBy w' v.ownBlock ∧ Moved w.heap.size v v' := by
  cases A with
  | none =>
    have hm : m = 0 := by
      rcases Nat.eq_zero_or_pos m with h0 | h0
      · exact h0
      · obtain ⟨b, off, h, _⟩ := hr.at_ h0
        cases h
    subst hm
    obtain rfl : news = [] := List.eq_nil_of_length_eq_zero (by simpa using hr.1)
    exact ⟨v, w, run_append_nil w base t ty e i size ht hi v n xs hown c, by simpa using hown, World.grownBy.refl w _, .inl rfl⟩
  | some ad =>
    have hnews : ∀ j u, news[j]? = some u → w.cell? (ad.add j) = some u := by
      intro j u hu
      have hj : j < news.length := (List.getElem?_eq_some_iff.1 hu).1
      have hm : 0 < m := by
        rcases Nat.eq_zero_or_pos m with h0 | h0
        · have := hr.1; rw [h0] at this; omega
        · exact h0
      obtain ⟨b, off, h, _, hc⟩ := hr.at_ hm
      obtain rfl := Option.some.inj h
      rw [add_none, hc j hj, hu]
    obtain ⟨v', w', h2, h3, h4, _, h5⟩ := run_append_own_at (P := P) w base t ty e i z size bytes ht hi hz hsize hby hzs hsz v n xs hown ad m c news hr.1 hnews h1 h63 hbytes hbase
    refine ⟨v', w', h2, h3, h4, ?_⟩
    rcases h5 with h5 | h5
    · exact .inl h5
    · exact .inr ⟨_, h5, Nat.le_refl _⟩
/-- A whole slice behind a row of the call's own. -/
theorem wpList_more {W : World} {ops : Array Oper} {rest : List Oper} {o : Oper} {a : Act} {Q : Exit → Act → World → Prop} (hgd : o.guard = none) (s x : Operand) (t : TypeId)
    (ho : o.op = .call { callee := .builtin .append, args := #[s, x], argTypes := #[t, t] })
    (B : Nat) (e : TypeId) (i : TypeInfo) (z : Value) (size bytes : Nat) (ht : P.underlying t = some (.slice e)) (hi : P.info? e = some i) (hz : i.zero = some z)
    (hsize : i.size = size) (hby : i.bytes = bytes) (hzs : z.cells.size = size) (hsz : 0 < size)
    (v : Value) (n : Nat) (xs : List Value) (hs : a.eval s = v) (hown : w.ownsRow B e size v n xs)
    (A : Option Addr) (m c : Nat) (news : List Value) (hx : a.eval x = .slice A m c) (hr : Rd w size (.slice A m c) m news) (h1 : ∀ u ∈ news, u.oneCell' = true)
    (h63 : n + m ≤ maxLen) (hbytes : (n + m) * bytes ≤ 140737488355328) (hbase : B ≤ w.heap.size) (hbel : Below B W w)
    (h : ∀ v' w', w'.ownsRow B e size v' (n + m) (xs ++ news) → w.grownBy w' v.ownBlock → Moved w.heap.size v v' → Below B W w' → B ≤ w'.heap.size → wpList P ops Q rest (a.put o.dst v') w') :
    wpList P ops Q (o :: rest) a w :=
  wpList_plain hgd fun K hK => by
    obtain ⟨v', w', h2, h3, h4, h5⟩ := run_append_rd (P := P) w B t o.type e i z size bytes ht hi hz hsize hby hzs hsz v n xs hown A m c news hr h1 h63 hbytes hbase
    unfold Oper.wp execOp
    simp only [ho, resolve, invoke, builtin, Sem.run_bind, Sem.run_pure, Result.andThen_ok, List.map_toArray, List.map_cons, List.map_nil, hs, hx, h2]
    exact hK _ _ (h v' w' h3 h4 h5 (hbel.grown h4 hbase (fun k hk => (hown.lt k hk).1)) (by have := h4.size; omega))
end
/-- One element more behind a row of the call's own, and where the row lies then. -/
theorem wpList_push_at {P : Program} {W w : World} {ops : Array Oper} {rest : List Oper} {o : Oper} {a : Act} {Q : Exit → Act → World → Prop} (hgd : o.guard = none) (s x : Operand) (t : TypeId)
    (ho : o.op = .call { callee := .builtin .append, args := #[s, x], argTypes := #[t, t] })
    (B : Nat) (e : TypeId) (i : TypeInfo) (z : Value) (size bytes : Nat) (ht : P.underlying t = some (.slice e)) (hi : P.info? e = some i) (hz : i.zero = some z)
    (hsize : i.size = size) (hby : i.bytes = bytes) (hzs : z.cells.size = size) (hsz : 0 < size)
    (v : Value) (n : Nat) (xs : List Value) (hs : a.eval s = v) (hown : w.ownsRow B e size v n xs)
    (cs : Array Value) (g : Nat) (hx : a.eval x = .slice (some ⟨g, 0, none⟩) 1 1) (hgw : w.heap.size = g) (hl : cs.size = size) (h1 : ∀ u ∈ cs.toList, u.oneCell' = true)
    (h63 : n + 1 ≤ maxLen) (hbytes : (n + 1) * bytes ≤ 140737488355328) (hbase : B ≤ w.heap.size) (hbel : Below B W w)
    (h : ∀ v' w', w'.ownsRow B e size v' (n + 1) (xs ++ cs.toList) → w.grownBy w' v.ownBlock → Moved w.heap.size v v' → Below B W w' → B ≤ w'.heap.size → wpList P ops Q rest (a.put o.dst v') w') :
    wpList P ops Q (o :: rest) a (w.alloc (.cells cs e)) := by
  subst hgw
  have hr : Rd (w.alloc (.cells cs e)) size (.slice (some ⟨w.heap.size, 0, none⟩) 1 1) 1 cs.toList := by
    refine ⟨by simp [hl], _, _, rfl, Nat.le_refl _, by simp [maxLen], .inr ⟨_, _, rfl, by simp, fun j hj => ?_⟩⟩
    rw [Nat.zero_add, cell_of_row _ w.heap.size j cs e (0, 0) (heap_alloc_new w _)]
    simp
  refine wpList_more (P := P) (W := W) _ hgd s x t ho B e i z size bytes ht hi hz hsize hby hzs hsz v n xs hs (hown.alloc _) _ 1 1 cs.toList hx hr h1 h63 hbytes (by simp; omega) (hbel.alloc hbase _) fun v' w' h3 h4 h5 h6 h7 => ?_
  refine h v' w' h3 ⟨h4.os, h4.tape, h4.output, by have := h4.size; simp at this; omega, fun k hk hne => ?_⟩ (h5.mono (by simp)) h6 h7
  rw [h4.block k (by simp; omega) hne]
  exact Below.heap_alloc w _ k hk
/-- The same at a step of a region that draws its order. -/
theorem step_push_at {P : Program} {W w : World} {ops : Array Oper} {o : Oper} {a : Act} {K : Act → World → Prop} {Q : Exit → Act → World → Prop} {E : Prop} (hgd : o.guard = none) (s x : Operand) (t : TypeId)
    (ho : o.op = .call { callee := .builtin .append, args := #[s, x], argTypes := #[t, t] })
    (B : Nat) (e : TypeId) (i : TypeInfo) (z : Value) (size bytes : Nat) (ht : P.underlying t = some (.slice e)) (hi : P.info? e = some i) (hz : i.zero = some z)
    (hsize : i.size = size) (hby : i.bytes = bytes) (hzs : z.cells.size = size) (hsz : 0 < size)
    (v : Value) (n : Nat) (xs : List Value) (hs : a.eval s = v) (hown : w.ownsRow B e size v n xs)
    (cs : Array Value) (g : Nat) (hx : a.eval x = .slice (some ⟨g, 0, none⟩) 1 1) (hgw : w.heap.size = g) (hl : cs.size = size) (h1 : ∀ u ∈ cs.toList, u.oneCell' = true)
    (h63 : n + 1 ≤ maxLen) (hbytes : (n + 1) * bytes ≤ 140737488355328) (hbase : B ≤ w.heap.size) (hbel : Below B W w)
    (h : ∀ v' w', w'.ownsRow B e size v' (n + 1) (xs ++ cs.toList) → w.grownBy w' v.ownBlock → Moved w.heap.size v v' → Below B W w' → B ≤ w'.heap.size → K (a.put o.dst v') w') :
    if Region.wanted o (yielded ops a.tmps) = true then Oper.wp P o a (w.alloc (.cells cs e)) K Q else E := by
  have hw : Region.wanted o (yielded ops a.tmps) = true := by simp [Region.wanted, hgd]
  rw [if_pos hw]
  subst hgw
  have hr : Rd (w.alloc (.cells cs e)) size (.slice (some ⟨w.heap.size, 0, none⟩) 1 1) 1 cs.toList := by
    refine ⟨by simp [hl], _, _, rfl, Nat.le_refl _, by simp [maxLen], .inr ⟨_, _, rfl, by simp, fun j hj => ?_⟩⟩
    rw [Nat.zero_add, cell_of_row _ w.heap.size j cs e (0, 0) (heap_alloc_new w _)]
    simp
  obtain ⟨v', w', h2, h3, h4, h5⟩ := run_append_rd (P := P) (w.alloc (.cells cs e)) B t o.type e i z size bytes ht hi hz hsize hby hzs hsz v n xs (hown.alloc _) _ 1 1 cs.toList hr h1 h63 hbytes (by simp; omega)
  unfold Oper.wp execOp
  simp only [ho, resolve, invoke, builtin, Sem.run_bind, Sem.run_pure, Result.andThen_ok, List.map_toArray, List.map_cons, List.map_nil, hs, hx, h2]
  have hg : w.grownBy w' v.ownBlock := ⟨h4.os, h4.tape, h4.output, by have := h4.size; simp at this; omega, fun k hk hne => by
    rw [h4.block k (by simp; omega) hne]
    exact Below.heap_alloc w _ k hk⟩
  exact h v' w' h3 hg (h5.mono (by simp)) (hbel.grown hg hbase (fun k hk => (hown.lt k hk).1)) (by have := hg.size; omega)

/-- A slice from an element on: where it lies. -/
def cutA (sz : Nat) (A : Option Addr) (c l : Nat) : Option Addr := if c = l then A else A.map (·.add (l * sz))
theorem Rd.cut {w : World} {sz n c l : Nat} {A : Option Addr} {xs : List Value} (h : Rd w sz (.slice A n c) n xs) (hl : l ≤ n) : Rd w sz (.slice (cutA sz A c l) (n - l) (c - l)) (n - l) (xs.drop (l * sz)) := by
  have hc := h.cap
  have h1 := h.1
  refine ⟨by rw [List.length_drop, h1, Nat.sub_mul], _, _, rfl, by omega, by omega, ?_⟩
  by_cases hn : n - l = 0
  · exact .inl hn
  · obtain ⟨b, off, rfl, hb, hx⟩ := h.at_ (by omega)
    refine .inr ⟨b, off + l * sz, ?_, hb, fun j hj => ?_⟩
    · unfold cutA
      rw [if_neg (by omega)]
      simp only [Option.map_some, add_none]
    · rw [List.length_drop] at hj
      have := hx (l * sz + j) (by omega)
      rw [Nat.add_assoc, this, List.getElem?_drop]
theorem Rd.tail {w : World} {sz n c : Nat} {A : Option Addr} {xs ys : List Value} (hl : xs.length = sz) (h : Rd w sz (.slice A (n + 1) c) (n + 1) (xs ++ ys)) : Rd w sz (.slice (cutA sz A c 1) n (c - 1)) n ys := by
  have := h.cut (l := 1) (by omega)
  rw [Nat.one_mul, ← hl, List.drop_left] at this
  rw [← hl]
  exact this
theorem Rd.upto {w : World} {sz n c l : Nat} {A : Option Addr} {xs : List Value} (h : Rd w sz (.slice A n c) n xs) (hl : l ≤ n) : Rd w sz (.slice A l c) l (xs.take (l * sz)) := by
  have hc := h.cap
  have h1 := h.1
  have hm : l * sz ≤ n * sz := Nat.mul_le_mul_right _ hl
  refine ⟨by rw [List.length_take, h1]; omega, _, _, rfl, by omega, by omega, ?_⟩
  by_cases hn : l = 0
  · exact .inl hn
  · obtain ⟨b, off, rfl, hb, hx⟩ := h.at_ (by omega)
    refine .inr ⟨b, off, rfl, hb, fun j hj => ?_⟩
    rw [List.length_take] at hj
    rw [hx j (by omega), List.getElem?_take_of_lt (by omega)]
section
variable {P : Program} (w : World)
theorem run_cut (t e : TypeId) (sz : Nat) (ht : P.underlying t = some (.slice e)) (hi : (P.info? e).map (·.size) = some sz) (A : Option Addr) (n c : Nat) (l : Int) (h0 : 0 ≤ l) (h1 : l ≤ n) :
    (Instr.sliceAt t (.slice A n c) (some (.int .i64 l)) none none).run P w = .ok (.slice (cutA sz A c l.toNat) (n - l.toNat) (c - l.toNat)) w := by
  obtain ⟨i, hi1, hi2⟩ := Option.map_eq_some_iff.1 hi
  simp [Instr.sliceAt, Instr.slice, Instr.sliceBounds, run_underlying ht, sizeOf, typeInfo, hi1, hi2, run_sliceBound _ _ _ _ _ h0 h1, cutA]
theorem run_upto (t e : TypeId) (sz : Nat) (ht : P.underlying t = some (.slice e)) (hi : (P.info? e).map (·.size) = some sz) (A : Option Addr) (n c : Nat) (h : Int) (h0 : 0 ≤ h) (h1 : h ≤ c) :
    (Instr.sliceAt t (.slice A n c) none (some (.int .i64 h)) none).run P w = .ok (.slice A h.toNat c) w := by
  obtain ⟨i, hi1, hi2⟩ := Option.map_eq_some_iff.1 hi
  have e0 : ¬ c = 0 → A.map (·.add 0) = A := fun _ => by
    cases A with
    | none => rfl
    | some a => simp [Addr.add]
  simp [Instr.sliceAt, Instr.slice, Instr.sliceBounds, run_underlying ht, sizeOf, typeInfo, hi1, run_sliceBound _ _ _ _ _ h0 h1]
  exact e0
end
end Go.Proofs.Ytgfoaopfdpclhaa
