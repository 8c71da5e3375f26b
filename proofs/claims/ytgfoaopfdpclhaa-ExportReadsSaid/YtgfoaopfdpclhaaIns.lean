/-
  One item put into a row of the call's own (slices.Insert).
-/
import Derived.Test.YtgfoaopfdpclhaaChg
import Derived.Lib.Overlaps
import Derived.Lib.AppendZerosOnto
import Derived.Laws.Externs
import Derived.Laws.IdiomCopy
import Derived.Laws.NewBlocks
import Derived.Deep.RegionLaw
import Derived.Outline
namespace Go.Proofs.Ytgfoaopfdpclhaa
open Go.RowKit
set_option linter.unusedVariables false

section
variable {P : Program}
/-- Elements of any size go over: all is read before anything is written. -/
theorem run_copy_rows (w : World) (dT sT ty elem : TypeId) (sz b o dLen dCap : Nat) (a : Addr) (sLen sCap : Nat) (cs : List Value)
    (hu : P.underlying dT = some (.slice elem)) (hs : (P.info? elem).map (·.size) = some sz) (hn : cs.length = Nat.min sLen dLen * sz)
    (hsrc : ∀ j v, cs[j]? = some v → w.cell? (a.add j) = some v) (hc : ∀ j, j < cs.length → (w.cell? ⟨b, o + j, none⟩).isSome = true) (hf : ∀ j, j < cs.length → w.frozen? ⟨b, o + j, none⟩ = false) (h1 : ∀ v ∈ cs, v.oneCell' = true) :
    (Builtin.copy_ #[dT, sT] ty #[.slice (some ⟨b, o, none⟩) dLen dCap, .slice (some a) sLen sCap]).run P w = .ok (goInt (Nat.min sLen dLen)) (w.setCells b o cs) := by
  have hl := run_loadCells_list (P := P) w a cs hsrc
  have hst := run_storeCells_cells (P := P) b o cs 0 w (by simpa using hc) (by simpa using hf) h1
  cases hq : P.info? elem with
  | none => simp [hq] at hs
  | some i =>
    have hi : i.size = sz := by simpa [hq] using hs
    simp [Builtin.copy_, run_underlying hu, Builtin.lenOf, Builtin.firstCells, sizeOf, typeInfo, hq, hi, ← hn, hl, hst]
theorem wpList_copy_run {w : World} {ops : Array Oper} {rest : List Oper} {o : Oper} {a : Act} {Q : Exit → Act → World → Prop} (hgd : o.guard = none) (d s : Operand) (t t' : TypeId)
    (ho : o.op = .call { callee := .builtin .copy, args := #[d, s], argTypes := #[t, t'] }) (v u : Value) (hd : a.eval d = v) (hs : a.eval s = u) {v' : Value} {w' : World}
    (hr : (Builtin.copy_ #[t, t'] o.type #[v, u]).run P w = .ok v' w') (h : wpList P ops Q rest (a.put o.dst v') w') : wpList P ops Q (o :: rest) a w :=
  wpList_plain hgd fun _ hK => by
    unfold Oper.wp execOp
    simp only [ho, resolve, invoke, builtin, Sem.run_bind, Sem.run_pure, Result.andThen_ok, List.map_toArray, List.map_cons, List.map_nil, hd, hs, hr]
    exact hK _ _ h
theorem step_copy_run {ops : Array Oper} {o : Oper} {a : Act} {w : World} {K : Act → World → Prop} {Q : Exit → Act → World → Prop} {E : Prop}
    (hg : o.guard = none) (d x : Operand) (dT sT : TypeId) (hop : o.op = Op.call { callee := Callee.builtin Builtin.copy, args := #[d, x], argTypes := #[dT, sT] })
    (v u : Value) (hd : a.eval d = v) (hx : a.eval x = u) {v' : Value} {w' : World} (hr : (Builtin.copy_ #[dT, sT] o.type #[v, u]).run P w = .ok v' w') (hK : K (a.put o.dst v') w') :
    if Region.wanted o (yielded ops a.tmps) = true then Oper.wp P o a w K Q else E := by
  have hw : Region.wanted o (yielded ops a.tmps) = true := by simp [Region.wanted, hg]
  rw [if_pos hw]
  unfold Oper.wp
  simp [execOp, hop, resolve, invoke, builtin, hd, hx, hr, Result.andThen]
  exact hK
end

theorem laid_hi : ∀ (l : List Value) (o : Nat) (cs : Array Value) (j : Nat), o + l.length ≤ j → (laid cs o l)[j]? = cs[j]?
  | [], _, _, _, _ => rfl
  | v :: l, o, cs, j, h => by
    unfold laid
    simp only [List.length_cons] at h
    rw [laid_hi l (o + 1) _ j (by omega), Array.getElem?_setIfInBounds_ne (by omega)]
theorem blk_shape {w : World} {g : Nat} {t : TypeId} {cs : Array Value} (h : Blk w g t cs) : w.shape? g = some (t, cs.size) := by
  unfold World.shape?
  rw [show w.heap[g]? = _ from h]
theorem blk_laid (g : Nat) (t : TypeId) : ∀ (l : List Value) (o : Nat) (cs : Array Value) (w : World), Blk w g t cs → Blk (w.setCells g o l) g t (laid cs o l)
  | [], _, _, _, h => h
  | v :: l, o, cs, w, h => blk_laid g t l (o + 1) _ _ (heap_setCell_same w g o cs t v h)
theorem cI_flat (l : List It) : (l.flatMap cI).length = l.length * 11 := flat_len cI (fun _ => rfl) l
theorem cI_allone (l : List It) : ∀ v ∈ l.flatMap cI, v.oneCell' = true := by
  intro v hv
  obtain ⟨x, _, hx⟩ := List.mem_flatMap.1 hv
  exact cI_one x v (by simpa using hx)

set_option maxRecDepth 100000 in
set_option maxHeartbeats 4000000 in
theorem insert_shift (g vb n c i : Nat) (cs : Array Value) (l : List It) (x : It) (w : World) (hg : Blk w g 27 cs) (hv : Blk w vb 27 (cI x).toArray) (hne : vb ≠ g) (hcs : cs.size = c * 11) (hl : l.length = n) (hcl : cs.toList.take (n * 11) = l.flatMap cI) (hi : i < n) (hroom : n + 1 ≤ c) (hc : c ≤ maxLen) :
    Calls Try.prog 62 #[.slice (some ⟨g, 0, none⟩) n c, .int .i64 i, .slice (some ⟨vb, 0, none⟩) 1 1] w fun e w' =>
      e = .returned (.slice (some ⟨g, 0, none⟩) (n + 1) c) ∧ w' = ((w.setCells g ((i + 1) * 11) ((l.drop i).flatMap cI)).setCells g (i * 11) (cI x)).drew := by
  unfold maxLen at hc
  have hz2 : ((i : Int) == (n : Int)) = false := beq_eq_false_iff_ne.2 (by omega)
  have hz3 : (n : Int) + 1 ≤ c := by omega
  have hi0 : (0 : Int) ≤ i := by omega
  have hin : (i : Int) < n := by omega
  have hle : i ≤ n := by omega
  have hle2 : n + 1 ≤ c := hroom
  have hle3 : i + 1 ≤ n + 1 := by omega
  have ht1 : ((n : Int) + 1).toNat = n + 1 := by omega
  have ht2 : ((i : Int) + 1).toNat = i + 1 := by omega
  have hn0 : (0 : Int) ≤ (n : Int) + 1 := by omega
  have hn1 : (0 : Int) ≤ (i : Int) + 1 := by omega
  have hcut1 : cutA 11 (some ⟨g, 0, none⟩) c i = some ⟨g, i * 11, none⟩ := by unfold cutA; rw [if_neg (by omega), Option.map_some, add_none, Nat.zero_add]
  have hcut2 : cutA 11 (some ⟨g, 0, none⟩) c (i + 1) = some ⟨g, (i + 1) * 11, none⟩ := by unfold cutA; rw [if_neg (by omega), Option.map_some, add_none, Nat.zero_add]
  have hov : ∀ lb cb, (callFunc 80 #[.slice (some ⟨vb, 0, none⟩) 1 1, .slice (some ⟨g, (i + 1) * 11, none⟩) lb cb]).run Try.prog w = .ok (.value (.bool false)) w := fun lb cb => by
    rw [run_callFunc_extern Try.func80 (by kernel_rfl) (by kernel_rfl) (by kernel_rfl) (e := Extern.SlicesOverlaps.overlaps #[29, 29] #[4]) (by kernel_rfl),
      Lib.run_overlaps_apart w 29 4 27 Try.underlying29 11 Try.sizeOf27 ⟨vb, 0, none⟩ ⟨g, (i + 1) * 11, none⟩ 1 1 lb cb hne 27 27 11 (c * 11) (blk_shape hv) (by rw [← hcs]; exact blk_shape hg) (by omega) (hv.free 0) (hv.free 11)]
    rfl
  have hdl : ((l.drop i).flatMap cI).length = (n - i) * 11 := by rw [cI_flat, List.length_drop, hl]
  have hcell : ∀ j, j < n * 11 → w.cell? ⟨g, j, none⟩ = (l.flatMap cI)[j]? := fun j hj => by
    rw [hg.cell j, ← hcl, List.getElem?_take_of_lt hj, Array.getElem?_toList]
  have hsome : ∀ j, j < (n + 1) * 11 → (w.cell? ⟨g, j, none⟩).isSome = true := fun j hj => by
    rw [hg.cell j, Array.getElem?_eq_getElem (by rw [hcs]; have := Nat.mul_le_mul_right 11 hroom; omega)]; rfl
  have hdrop : ∀ j v, ((l.drop i).flatMap cI)[j]? = some v → w.cell? ⟨g, i * 11 + j, none⟩ = some v := fun j v hj => by
    have e : l.flatMap cI = (l.take i).flatMap cI ++ (l.drop i).flatMap cI := by rw [← List.flatMap_append, List.take_append_drop]
    have ht : ((l.take i).flatMap cI).length = i * 11 := by rw [cI_flat, List.length_take, hl, Nat.min_eq_left hle]
    have hjl : j < (n - i) * 11 := by rw [← hdl]; exact (List.getElem?_eq_some_iff.1 hj).1
    rw [hcell _ (by have : (n - i) * 11 + i * 11 = n * 11 := by rw [← Nat.add_mul, Nat.sub_add_cancel hle]
                    omega), e, List.getElem?_append_right (by omega), ht, Nat.add_sub_cancel_left, hj]
  have hsz : (Try.prog.info? 27).map (·.size) = some 11 := by kernel_rfl
  have hcp1 : ∀ ty, (Builtin.copy_ #[29, 29] ty #[.slice (some ⟨g, (i + 1) * 11, none⟩) (n - i) (c - (i + 1)), .slice (some ⟨g, i * 11, none⟩) (n + 1 - i) (c - i)]).run Try.prog w.drew = .ok (goInt (Nat.min (n + 1 - i) (n - i))) ((w.setCells g ((i + 1) * 11) ((l.drop i).flatMap cI)).drew) := fun ty => by
    rw [← setCells_drew]
    exact run_copy_rows w.drew _ _ ty 27 11 g ((i + 1) * 11) (n - i) _ ⟨g, i * 11, none⟩ (n + 1 - i) _ _ Try.underlying29 hsz (by rw [hdl]; congr 1; exact (Nat.min_eq_right (by omega)).symm)
      (fun j v hj => by rw [add_none]; exact hdrop j v hj)
      (fun j hj => hsome _ (by rw [hdl] at hj; have : (n - i) * 11 + (i + 1) * 11 = (n + 1) * 11 := by rw [← Nat.add_mul]; congr 1; omega
                               omega)) (fun j _ => hg.free _) (cI_allone _)
  have hB1 : Blk (w.setCells g ((i + 1) * 11) ((l.drop i).flatMap cI)).drew g 27 (laid cs ((i + 1) * 11) ((l.drop i).flatMap cI)) := blk_laid g 27 ((l.drop i).flatMap cI) ((i + 1) * 11) cs w hg
  have hv1 : ∀ j v, (cI x)[j]? = some v → (w.setCells g ((i + 1) * 11) ((l.drop i).flatMap cI)).drew.cell? ⟨vb, j, none⟩ = some v := fun j v hj => by
    show (w.setCells g ((i + 1) * 11) ((l.drop i).flatMap cI)).cell? ⟨vb, j, none⟩ = some v
    rw [World.cell?_setCells_out g _ _ _ _ (fun h _ => absurd h hne)]
    show w.cell? ⟨vb, j, none⟩ = some v
    rw [hv.cell j]; simpa using hj
  have hcp2 : ∀ ty, (Builtin.copy_ #[29, 29] ty #[.slice (some ⟨g, i * 11, none⟩) (n + 1 - i) (c - i), .slice (some ⟨vb, 0, none⟩) 1 1]).run Try.prog ((w.setCells g ((i + 1) * 11) ((l.drop i).flatMap cI)).drew) = .ok (goInt (Nat.min 1 (n + 1 - i))) (((w.setCells g ((i + 1) * 11) ((l.drop i).flatMap cI)).setCells g (i * 11) (cI x)).drew) := fun ty => by
    rw [← setCells_drew g (cI x)]
    exact run_copy_rows (P := Try.prog) ((w.setCells g ((i + 1) * 11) ((l.drop i).flatMap cI)).drew) _ _ ty 27 11 g (i * 11) (n + 1 - i) _ ⟨vb, 0, none⟩ 1 1 (cI x) Try.underlying29 hsz (by rw [show Nat.min 1 (n + 1 - i) = 1 from Nat.min_eq_left (by omega)]; rfl)
      (fun j v hj => by rw [add_none, Nat.zero_add]; exact hv1 j v hj)
      (fun j hj => by
        rw [hB1.cell, Array.getElem?_eq_getElem (by rw [laid_size, hcs]; have : j < 11 := hj; omega)]; rfl)
      (fun j _ => hB1.free _) (fun v hv => cI_one x v (by simpa using hv))
  have hw1 : IntKind.i64.wrap ((i : Int) + 1) = (i : Int) + 1 := IntWalk.i64_in _ (by omega)
  have hle4 : i ≤ n + 1 := by omega
  go_enter Try.func62, Try.ntmps62
  go_wp2_with (simp only [hov])
  go_region_law (refine step_copy_run rfl _ _ 29 29 rfl _ _ (by simp [Act.eval, Act.put]) (by simp [Act.eval, Act.put]) (hcp1 _) ?_)
  go_wp2_with (with_reducible refine wpList_copy_run rfl (.tmp 80) (.tmp 81) 29 29 rfl _ _ rfl rfl (hcp2 _) ?_)
  go_ret
  exact ⟨rfl, rfl⟩

theorem Try.infoIt : (Try.prog.info? 27).map (fun i => (i.zero, i.size, i.bytes)) = some (some (vI (noneI k0)), 11, 96) := by kernel_rfl
theorem zeroCells_size (z : Array Value) (n : Nat) : (Builtin.zeroCells z n).size = n * z.size := by simp [Builtin.zeroCells]

set_option maxRecDepth 100000 in
set_option maxHeartbeats 4000000 in
theorem insert_grow (g vb n i : Nat) (l : List It) (x : It) (cs : Array Value) (w : World) (hg : Blk w g 27 cs) (hv : Blk w vb 27 (cI x).toArray) (hl : l.length = n) (hcl : cs.toList.take (n * 11) = l.flatMap cI) (hcs : cs.size = n * 11) (hi : i < n) (hn : n ≤ 1000000) :
    Calls Try.prog 62 #[.slice (some ⟨g, 0, none⟩) n n, .int .i64 i, .slice (some ⟨vb, 0, none⟩) 1 1] w fun e w' =>
      ∃ G ROW, n + 1 ≤ G ∧ G ≤ maxLen ∧ ROW.size = G * 11 ∧ (∀ j, j < i * 11 → ROW[j]? = (l.flatMap cI)[j]?) ∧ e = .returned (.slice (some ⟨w.heap.size, 0, none⟩) (n + 1) G) ∧
        w' = (((w.alloc (.cells ROW 27)).setCells w.heap.size (i * 11) (cI x)).setCells w.heap.size ((i + 1) * 11) ((l.drop i).flatMap cI)).drew.drew := by
  obtain ⟨i0, hi0, hz0, hz1, hz2⟩ := info_parts Try.infoIt
  have hbw : g < w.heap.size := hg.lt
  have hgne : g ≠ w.heap.size := by omega
  have hvw : vb < w.heap.size := hv.lt
  have hle : i ≤ n := by omega
  have hsz : (Try.prog.info? 27).map (·.size) = some 11 := by kernel_rfl
  have hcell : ∀ j, j < n * 11 → w.cell? ⟨g, j, none⟩ = (l.flatMap cI)[j]? := fun j hj => by
    rw [hg.cell j, ← hcl, List.getElem?_take_of_lt hj, Array.getElem?_toList]
  have ht : ((l.take i).flatMap cI).length = i * 11 := by rw [cI_flat, List.length_take, hl, Nat.min_eq_left hle]
  have hdl : ((l.drop i).flatMap cI).length = (n - i) * 11 := by rw [cI_flat, List.length_drop, hl]
  have hsp : l.flatMap cI = (l.take i).flatMap cI ++ (l.drop i).flatMap cI := by rw [← List.flatMap_append, List.take_append_drop]
  have hold : (Builtin.firstCells i0.size i (.slice (some ⟨g, 0, none⟩) i n)).run Try.prog w.drew = .ok ((l.take i).flatMap cI).toArray w.drew := by
    rw [hz1]
    exact run_firstCells_some w.drew 11 i ⟨g, 0, none⟩ i n _ (by rw [ht]) (fun j v hj => by
      rw [add_none, Nat.zero_add]
      have hjl : j < i * 11 := by rw [← ht]; exact (List.getElem?_eq_some_iff.1 hj).1
      show w.cell? ⟨g, j, none⟩ = some v
      rw [hcell j (by have := Nat.mul_le_mul_right 11 hle; omega), hsp, List.getElem?_append_left (by rw [ht]; exact hjl), hj])
  have hkk : (n : Int) + 1 - (i : Int) = ((n + 1 - i : Nat) : Int) := by omega
  have hik : i + (n + 1 - i) = n + 1 := by omega
  have hrz : ∀ ty, (Builtin.append_ #[29, 3] ty #[.slice (some ⟨g, 0, none⟩) i n, .int .i64 ((n : Int) + 1 - (i : Int))]).run Try.prog w =
      .ok (.slice (some ⟨w.heap.size, 0, none⟩) (n + 1) (grownCap w (n + 1) n 27)) (w.drew.alloc (.cells (((l.take i).flatMap cI).toArray ++ Builtin.zeroCells (vI (noneI k0)).cells (n + 1 - i) ++ Builtin.zeroCells (vI (noneI k0)).cells (grownCap w (n + 1) n 27 - (n + 1))) 27)) := fun ty => by
    have h := Lib.run_append_grow_zeros w 29 3 ty 27 i0 _ .i64 .i64 Try.underlying29 Try.underlying3 hi0 hz0 (some ⟨g, 0, none⟩) i n _ hold (n + 1 - i) (by omega) (by omega) (by omega) (by omega) (by rw [hz2]; omega) (by rw [hz2, hik]; exact growslice_fits (by omega) (by omega))
    rw [hik] at h
    rw [hkk]
    exact h
  obtain ⟨G, hG⟩ : ∃ G, grownCap w (n + 1) n 27 = G := ⟨_, rfl⟩
  have hGn : n + 1 ≤ G := by rw [← hG]; exact grownCap_ge w _ _ _
  have hGm : G ≤ maxLen := by rw [← hG]; exact grownCap_le_maxLen w (n + 1) n _ (by unfold maxLen; omega)
  obtain ⟨ROW, hROW⟩ : ∃ ROW : Array Value, ((l.take i).flatMap cI).toArray ++ Builtin.zeroCells (vI (noneI k0)).cells (n + 1 - i) ++ Builtin.zeroCells (vI (noneI k0)).cells (G - (n + 1)) = ROW := ⟨_, rfl⟩
  rw [hG, hROW] at hrz
  have hzc : (vI (noneI k0)).cells.size = 11 := rfl
  have hRs : ROW.size = G * 11 := by
    rw [← hROW, Array.size_append, Array.size_append, zeroCells_size, zeroCells_size, hzc, List.size_toArray, ht, ← Nat.add_mul, ← Nat.add_mul]
    congr 1; omega
  have hRt : ∀ j, j < i * 11 → ROW[j]? = (l.flatMap cI)[j]? := fun j hj => by
    rw [← hROW, Array.getElem?_append_left (by rw [Array.size_append, List.size_toArray, ht]; omega), Array.getElem?_append_left (by rw [List.size_toArray, ht]; omega), hsp, List.getElem?_append_left (by omega)]
    simp
  clear hROW hG hold hkk hzc hz0
  have hK1 := Blk.new_ w 27 ROW
  have hK2 := blk_laid w.heap.size 27 (cI x) (i * 11) ROW _ hK1
  have hN : ∀ j, j < (n + 1) * 11 → j < ROW.size := fun j hj => by rw [hRs]; have := Nat.mul_le_mul_right 11 hGn; omega
  have hcpA : ∀ ty, (Builtin.copy_ #[29, 29] ty #[.slice (some ⟨w.heap.size, i * 11, none⟩) (n + 1 - i) (G - i), .slice (some ⟨vb, 0, none⟩) 1 1]).run Try.prog (w.alloc (.cells ROW 27)).drew = .ok (goInt (Nat.min 1 (n + 1 - i))) ((w.alloc (.cells ROW 27)).setCells w.heap.size (i * 11) (cI x)).drew := fun ty => by
    rw [← setCells_drew w.heap.size (cI x)]
    exact run_copy_rows (P := Try.prog) (w.alloc (.cells ROW 27)).drew _ _ ty 27 11 w.heap.size (i * 11) (n + 1 - i) _ ⟨vb, 0, none⟩ 1 1 (cI x) Try.underlying29 hsz (by rw [show Nat.min 1 (n + 1 - i) = 1 from Nat.min_eq_left (by omega)]; rfl)
      (fun j v hj => by rw [add_none, Nat.zero_add]; show (w.alloc (.cells ROW 27)).cell? ⟨vb, j, none⟩ = some v; rw [(hv.alloc _).cell j]; simpa using hj)
      (fun j hj => by
        have : j < 11 := hj
        show ((w.alloc (.cells ROW 27)).cell? ⟨w.heap.size, i * 11 + j, none⟩).isSome = true
        rw [hK1.cell, Array.getElem?_eq_getElem (hN _ (by omega))]; rfl)
      (fun j _ => hK1.free _) (fun v hv => cI_one x v (by simpa using hv))
  have hc2 : ∀ j, ((w.alloc (.cells ROW 27)).setCells w.heap.size (i * 11) (cI x)).cell? ⟨g, j, none⟩ = w.cell? ⟨g, j, none⟩ := fun j => by
    rw [World.cell?_setCells_out w.heap.size (cI x) (i * 11) (w.alloc (.cells ROW 27)) ⟨g, j, none⟩ (fun h _ => absurd h hgne), (bel_cell (bel_alloc (Below.refl _ w) (.cells ROW 27))).1 g j hbw]
  have hcpB : ∀ ty, (Builtin.copy_ #[29, 29] ty #[.slice (some ⟨w.heap.size, (i + 1) * 11, none⟩) (n - i) (G - (i + 1)), .slice (some ⟨g, i * 11, none⟩) (n - i) (n - i)]).run Try.prog ((w.alloc (.cells ROW 27)).setCells w.heap.size (i * 11) (cI x)).drew.drew = .ok (goInt (Nat.min (n - i) (n - i))) (((w.alloc (.cells ROW 27)).setCells w.heap.size (i * 11) (cI x)).setCells w.heap.size ((i + 1) * 11) ((l.drop i).flatMap cI)).drew.drew := by
    generalize (w.alloc (.cells ROW 27)).setCells w.heap.size (i * 11) (cI x) = W2 at hc2 hK2 ⊢
    intro ty
    rw [← setCells_drew w.heap.size ((l.drop i).flatMap cI), ← setCells_drew w.heap.size ((l.drop i).flatMap cI)]
    refine run_copy_rows (P := Try.prog) W2.drew.drew _ _ ty 27 11 w.heap.size ((i + 1) * 11) (n - i) _ ⟨g, i * 11, none⟩ (n - i) _ ((l.drop i).flatMap cI) Try.underlying29 hsz ?_ ?_ ?_ ?_ ?_
    · rw [hdl, show Nat.min (n - i) (n - i) = n - i from Nat.min_self (n - i)]
    · intro j v hj
      rw [add_none]
      show W2.cell? ⟨g, i * 11 + j, none⟩ = some v
      have hjl : j < (n - i) * 11 := by rw [← hdl]; exact (List.getElem?_eq_some_iff.1 hj).1
      rw [hc2, hcell _ (by have : (n - i) * 11 + i * 11 = n * 11 := by rw [← Nat.add_mul, Nat.sub_add_cancel hle]
                           omega), hsp, List.getElem?_append_right (by omega), ht, Nat.add_sub_cancel_left, hj]
    · intro j hj
      show (W2.cell? ⟨w.heap.size, (i + 1) * 11 + j, none⟩).isSome = true
      rw [hK2.cell, Array.getElem?_eq_getElem (by
        rw [laid_size]
        rw [hdl] at hj
        refine hN _ ?_
        have : (n - i) * 11 + (i + 1) * 11 = (n + 1) * 11 := by rw [← Nat.add_mul]; congr 1; omega
        omega)]
      rfl
    · intro j _
      exact hK2.free _
    · exact cI_allone _
  have hz3 : (n : Int) < (n : Int) + 1 := by omega
  have hzq : ((i : Int) == (n : Int)) = false := beq_eq_false_iff_ne.2 (by omega)
  have hi0' : (0 : Int) ≤ i := by omega
  have hin : (i : Int) < n := by omega
  have ht2 : ((i : Int) + 1).toNat = i + 1 := by omega
  have hn1 : (0 : Int) ≤ (i : Int) + 1 := by omega
  have hle4 : i ≤ n + 1 := by omega
  have hle5 : i + 1 ≤ n + 1 := by omega
  have hcut1 : cutA 11 (some ⟨w.heap.size, 0, none⟩) G i = some ⟨w.heap.size, i * 11, none⟩ := by unfold cutA; rw [if_neg (by omega), Option.map_some, add_none, Nat.zero_add]
  have hcut2 : cutA 11 (some ⟨w.heap.size, 0, none⟩) G (i + 1) = some ⟨w.heap.size, (i + 1) * 11, none⟩ := by unfold cutA; rw [if_neg (by omega), Option.map_some, add_none, Nat.zero_add]
  have hcut3 : cutA 11 (some ⟨g, 0, none⟩) n i = some ⟨g, i * 11, none⟩ := by unfold cutA; rw [if_neg (by omega), Option.map_some, add_none, Nat.zero_add]
  have hw1 : IntKind.i64.wrap ((i : Int) + 1) = (i : Int) + 1 := IntWalk.i64_in _ (by omega)
  have hfin := Lib.hid (show ∃ G' ROW', n + 1 ≤ G' ∧ G' ≤ maxLen ∧ ROW'.size = G' * 11 ∧ (∀ j, j < i * 11 → ROW'[j]? = (l.flatMap cI)[j]?) ∧ G' = G ∧ ROW' = ROW from ⟨G, ROW, hGn, hGm, hRs, hRt, rfl, rfl⟩)
  unfold maxLen at hGm
  clear hRt hRs hN hcell hsp hK1 hK2 hc2
  go_enter Try.func62, Try.ntmps62
  go_wp2_with (first
    | (at_builtin; refine Lib.wpList_append_run _ rfl _ _ _ _ rfl _ _ rfl rfl _ _ (hrz _) ?_)
    | (with_reducible refine wpList_copy_run rfl (.tmp 43) (.tmp 44) 29 29 rfl _ _ rfl rfl (hcpA _) ?_))
  go_region_law (refine step_copy_run rfl _ _ 29 29 rfl (.slice (some ⟨w.heap.size, (i + 1) * 11, none⟩) (n - i) (G - (i + 1))) (.slice (some ⟨g, i * 11, none⟩) (n - i) (n - i)) (by simp [Act.eval, Act.put]) (by simp [Act.eval, Act.put]) (hcpB _) ?_)
  go_wp2
  go_ret
  obtain ⟨G', ROW', a1, a2, a3, a4, rfl, rfl⟩ := hfin.out
  exact ⟨_, _, a1, a2, a3, a4, rfl, rfl⟩
end Go.Proofs.Ytgfoaopfdpclhaa
