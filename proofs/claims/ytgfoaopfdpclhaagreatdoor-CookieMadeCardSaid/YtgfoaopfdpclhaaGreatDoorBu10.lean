/-
  Joined texts: Attr3 Attr4 Attr5 Attr6.
-/
import Derived.Test.YtgfoaopfdpclhaaGreatDoorBu9
import Derived.Laws.StructEq
namespace Go.Proofs.YtgfoaopfdpclhaaGreatDoor
open Go.RowKit
set_option linter.unusedVariables false
set_option maxRecDepth 100000

/-- Pairs as cells. -/
def cellsP (l : List (List UInt8 × List UInt8)) : List Value := l.flatMap fun p => [strV p.1, strV p.2]
theorem cellsP_len (l : List (List UInt8 × List UInt8)) : (cellsP l).length = l.length * 2 := by
  induction l with
  | nil => rfl
  | cons p r ih =>
    have e : cellsP (p :: r) = strV p.1 :: strV p.2 :: cellsP r := rfl
    rw [e]
    simp only [List.length_cons]
    omega
theorem cellsP_snoc (l : List (List UInt8 × List UInt8)) (p : List UInt8 × List UInt8) : cellsP (l ++ [p]) = cellsP l ++ [strV p.1, strV p.2] := by
  simp [cellsP]
theorem cellsP_at (l : List (List UInt8 × List UInt8)) (k : Nat) (h : k < l.length) : (cellsP l)[k * 2]? = some (strV l[k].1) ∧ (cellsP l)[k * 2 + 1]? = some (strV l[k].2) := by
  induction l generalizing k with
  | nil => simp at h
  | cons p r ih =>
    cases k with
    | zero => exact ⟨rfl, rfl⟩
    | succ k =>
      have := ih k (by simpa using h)
      have e : cellsP (p :: r) = strV p.1 :: strV p.2 :: cellsP r := rfl
      rw [e, show (k + 1) * 2 = k * 2 + 1 + 1 by omega]
      simpa using this
theorem Tryz.infoP47 : (Tryz.prog.info? 47).map (fun i => (i.zero, i.size, i.bytes)) = some (some (.agg #[.string ByteArray.empty, .string ByteArray.empty]), 2, 32) := by kernel_rfl
theorem Tryz.infoQ62 : (Tryz.prog.info? 62).map (fun i => (i.zero, i.size, i.bytes)) = some (some (.agg #[.string ByteArray.empty, .string ByteArray.empty]), 2, 32) := by kernel_rfl

theorem Rd.len {w : World} {n c : Nat} {A : Option Addr} {l : List (List UInt8 × List UInt8)} (h : Rd w 2 (.slice A n c) n (cellsP l)) : l.length = n := by
  have := h.1
  rw [cellsP_len] at this
  omega
theorem Rd.pairs {w : World} {n c : Nat} {A : Option Addr} {l : List (List UInt8 × List UInt8)} (h : Rd w 2 (.slice A n c) n (cellsP l)) {k : Nat} (hk : k < l.length) :
    ∃ b off, A = some ⟨b, off, none⟩ ∧ b < w.heap.size ∧ ∀ j (hj : j < l.length), w.cell? ⟨b, off + j * 2, none⟩ = some (.string (S l[j].1)) ∧ w.cell? ⟨b, off + j * 2 + 1, none⟩ = some (.string (S l[j].2)) := by
  have hl := h.len
  obtain ⟨b, off, hA, hb, hc⟩ := h.at_ (by omega)
  refine ⟨b, off, hA, hb, fun j hj => ?_⟩
  have := cellsP_at l j hj
  refine ⟨?_, ?_⟩
  · rw [hc (j * 2) (by rw [cellsP_len]; omega), this.1]; rfl
  · rw [Nat.add_assoc, hc (j * 2 + 1) (by rw [cellsP_len]; omega), this.2]; rfl

theorem cellsP_take (l : List (List UInt8 × List UInt8)) (k : Nat) (h : k < l.length) : cellsP (l.take (k + 1)) = cellsP (l.take k) ++ [strV l[k].1, strV l[k].2] := by
  rw [List.take_succ_eq_append_getElem h, cellsP_snoc]

/-- Are pairs few and short? -/
def lightQ (p : List UInt8 × List UInt8) : Bool := decide (p.1.length ≤ 300) && decide (p.2.length ≤ 300)
def lightC (l : List (List UInt8 × List UInt8)) : Bool := decide (l.length ≤ 40) && l.all lightQ
theorem all_take_step {α : Type} {p : α → Bool} {l : List α} {k : Nat} (h : k < l.length) : (l.take (k + 1)).all p = ((l.take k).all p && p l[k]) := by
  rw [List.take_succ_eq_append_getElem h, List.all_append]; simp
theorem all_bad {α : Type} {p : α → Bool} {l : List α} {k : Nat} (h : k < l.length) (hp : p l[k] = false) : l.all p = false := by
  rw [List.all_eq_false]
  exact ⟨l[k], List.getElem_mem h, by simp [hp]⟩

end Go.Proofs.YtgfoaopfdpclhaaGreatDoor
namespace Go.Proofs.YtgfoaopfdpclhaaGreatDoor
open Go.RowKit
set_option linter.unusedVariables false
set_option maxRecDepth 100000

theorem run_dropF (l : List (List UInt8 × List UInt8)) (k : Nat) (h : k < l.length) (f : Ff) : (l.drop k).foldl sayT f = (l.drop (k + 1)).foldl sayT (sayT f l[k]) := by
  rw [List.drop_eq_getElem_cons h, List.foldl_cons]

theorem results_cell {P : Program} {fn : Func} {a T : Nat} {tmps : Array Value} {w : World} {b o : Nat} {cs : List Value} (h : fn.results = #[.cell a T]) (ht : tmps.getD a undef = .pointer (some ⟨b, o, none⟩)) (hc : w.rangeAt b o cs)
    (hT : ∃ d, P.underlying T = some d ∧ d.isRow = true) (hi : (P.info? T).map (·.size) = some cs.length) : (results fn tmps).run P w = .ok (.agg cs.toArray) w := by
  obtain ⟨d, hu, hd⟩ := hT
  have hl := run_loadVar_mid (P := P) w b o T cs d hc hu hd hi
  rw [Array.getD_eq_getD_getElem?] at ht
  simp only [results, h]
  simp [ht, asAddr, hl]
theorem blk_range {w : World} {g : Nat} {t : TypeId} {cs : Array Value} (h : Blk w g t cs) : w.rangeAt g 0 cs.toList := fun j v hv => by
  rw [Nat.zero_add, h.cell j, ← Array.getElem?_toList]; exact hv
theorem ff_all (f f0 : Ff) : (((((((((((ffC f0).setIfInBounds 0 (.bool f.he)).setIfInBounds 1 (.bool f.ha)).setIfInBounds 2 (.bool f.hd)).setIfInBounds 3 (.bool f.hp)).setIfInBounds 4 (.int .i64 f.ex)).setIfInBounds 5 (.int .i64 f.ag)).setIfInBounds 6 (.string (S f.dm))).setIfInBounds 7 (.string (S f.pt))).setIfInBounds 8 (.bool f.sc)).setIfInBounds 9 (.bool f.ho)) = ffC f := by
  unfold ffC
  simp
theorem blk_all {w : World} {g : Nat} {t : TypeId} {f0 : Ff} (f : Ff) (h : Blk w g t (ffC f0)) : Blk ((((((((((w.setCell ⟨g, 0, none⟩ (.bool f.he)).setCell ⟨g, 1, none⟩ (.bool f.ha)).setCell ⟨g, 2, none⟩ (.bool f.hd)).setCell ⟨g, 3, none⟩ (.bool f.hp)).setCell ⟨g, 4, none⟩ (.int .i64 f.ex)).setCell ⟨g, 5, none⟩ (.int .i64 f.ag)).setCell ⟨g, 6, none⟩ (.string (S f.dm))).setCell ⟨g, 7, none⟩ (.string (S f.pt))).setCell ⟨g, 8, none⟩ (.bool f.sc)).setCell ⟨g, 9, none⟩ (.bool f.ho)) g t (ffC f) := by
  have := ((((((((((h.put 0 (.bool f.he)).put 1 (.bool f.ha)).put 2 (.bool f.hd)).put 3 (.bool f.hp)).put 4 (.int .i64 f.ex)).put 5 (.int .i64 f.ag)).put 6 (.string (S f.dm))).put 7 (.string (S f.pt))).put 8 (.bool f.sc)).put 9 (.bool f.ho))
  rw [ff_all f f0] at this
  exact this
theorem blk_new {w : World} {g : Nat} (t : TypeId) (cs : Array Value) (hg : w.heap.size = g) : Blk (w.alloc (.cells cs t)) g t cs := hg ▸ Blk.new_ w t cs
theorem blk_grown {w w' : World} {g g' : Nat} {t : TypeId} {cs : Array Value} (h : Blk w g' t cs) (hg : w.grownBy w' (some g)) (hne : g' ≠ g) : Blk w' g' t cs := (hg.block g' h.lt (fun e => hne (by injection e))).trans h
theorem rd_apart {w : World} {sz n c g : Nat} {A : Option Addr} {xs : List Value} (h : Rd w sz (.slice A n c) n xs) (hg : w.heap.size ≤ g) (hn : 0 < n) : ∀ b, (Value.slice A n c).ownBlock = some b → some g ≠ some b := by
  obtain ⟨b, off, rfl, hb, _⟩ := h.at_ hn
  intro b' hb' e
  cases e
  simp [Value.ownBlock] at hb'
  omega

set_option maxRecDepth 4000 in
set_option maxHeartbeats 1500000 in
theorem attrRead_any (A : Option Addr) (n c : Nat) (l : List (List UInt8 × List UInt8)) (w : World) (h : Rd w 2 (.slice A n c) n (cellsP l)) (hl4 : ∀ p ∈ l, p.1.length ≤ 4294967296 ∧ p.2.length ≤ 4294967296) (hm : Mon w) :
    Calls Tryz.prog 21 #[.slice A n c] w fun e w' => e = .returned (.agg (ffC (readT l))) ∧ Below w.heap.size w w' := by
  have hmf : ∀ (fn : Fn) (first cap : Array Value) (w : World), (Instr.makeFunc fn first cap).run Tryz.prog w = .ok (.func fn first cap) w := fun _ _ _ _ => rfl
  have hl := h.len
  have hcap := h.cap
  unfold maxLen at hcap
  obtain ⟨hca, hcb⟩ := hcap
  subst hl
  have hst := Lib.hid (show readT l = (l.drop 0).foldl sayT ff0 from rfl)
  go_enter Tryz.func21, Tryz.ntmps21
  go_wp2
  have hs0 : (w.alloc (.cells #[.bool false, .bool false, .bool false, .bool false, .int .i64 0, .int .i64 0, .string ⟨#[]⟩, .string ⟨#[]⟩, .bool false, .bool false] 53)).heap.size = w.heap.size + 1 := by simp
  have hs1 : ((w.alloc (.cells #[.bool false, .bool false, .bool false, .bool false, .int .i64 0, .int .i64 0, .string ⟨#[]⟩, .string ⟨#[]⟩, .bool false, .bool false] 53)).alloc (.cells #[.bool false, .bool false, .bool false, .bool false, .int .i64 0, .int .i64 0, .string ⟨#[]⟩, .string ⟨#[]⟩, .bool false, .bool false] 53)).heap.size = w.heap.size + 1 + 1 := by simp
  have hK0 := (((Blk.new_ w 53 #[.bool false, .bool false, .bool false, .bool false, .int .i64 0, .int .i64 0, .string ⟨#[]⟩, .string ⟨#[]⟩, .bool false, .bool false]).alloc (.cells #[.bool false, .bool false, .bool false, .bool false, .int .i64 0, .int .i64 0, .string ⟨#[]⟩, .string ⟨#[]⟩, .bool false, .bool false] 53)).alloc (.cells #[.pointer (some ⟨w.heap.size + 1, 0, none⟩)] 85))
  have hKf := ((blk_new 53 #[.bool false, .bool false, .bool false, .bool false, .int .i64 0, .int .i64 0, .string ⟨#[]⟩, .string ⟨#[]⟩, .bool false, .bool false] hs0).alloc (.cells #[.pointer (some ⟨w.heap.size + 1, 0, none⟩)] 85))
  have hKp := (blk_new 85 #[.pointer (some ⟨w.heap.size + 1, 0, none⟩)] hs1)
  have hbel0 := bel_alloc (bel_alloc (bel_alloc (Below.refl w.heap.size w) (.cells #[.bool false, .bool false, .bool false, .bool false, .int .i64 0, .int .i64 0, .string ⟨#[]⟩, .string ⟨#[]⟩, .bool false, .bool false] 53)) (.cells #[.bool false, .bool false, .bool false, .bool false, .int .i64 0, .int .i64 0, .string ⟨#[]⟩, .string ⟨#[]⟩, .bool false, .bool false] 53)) (.cells #[.pointer (some ⟨w.heap.size + 1, 0, none⟩)] 85)
  clear hs0 hs1
  go_loopw [12] (fun i wr => ∃ (k : Nat) (f : Ff), i = .int .i64 k ∧ k ≤ l.length ∧ Blk wr w.heap.size 53 (ffC ff0) ∧ Blk wr (w.heap.size + 1) 53 (ffC f) ∧ Blk wr (w.heap.size + 1 + 1) 85 #[.pointer (some ⟨w.heap.size + 1, 0, none⟩)] ∧ Below w.heap.size w wr ∧ Hid (readT l = (l.drop k).foldl sayT f)) (fun i _ => l.length - (intOf i).toNat)
  case atStart => exact ⟨0, ff0, rfl, by omega, hK0, hKf, hKp, hbel0, hst.out⟩
  case round =>
    clear hK0 hKf hKp hbel0 hst
    obtain ⟨k, f, rfl, hk, hK0, hKf, hKp, hbel, hin⟩ := hrel
    by_cases hlt : k < l.length
    · have hki : (k : Int) < l.length := by omega
      obtain ⟨b, off, rfl, hb, hx⟩ := (h.below hbel).pairs hlt
      obtain ⟨hxa, hxb⟩ := hx k hlt
      have hst2 := Lib.hid (hin.out.trans (run_dropF l k hlt f))
      obtain ⟨hb1, hb2⟩ := hl4 _ (List.getElem_mem hlt)
      clear hx hin
      generalize l[k] = pk at *
      obtain ⟨pa, pb⟩ := pk
      simp only at hxa hxb hb1 hb2
      have hKf2 := hKf.alloc (.cells #[.string (S pa), .string (S pb)] 47)
      have hK02 := hK0.alloc (.cells #[.string (S pa), .string (S pb)] 47)
      have hKp2 := hKp.alloc (.cells #[.string (S pa), .string (S pb)] 47)
      have hbel2 := bel_alloc hbel (.cells #[.string (S pa), .string (S pb)] 47)
      have hm2 := hm.next hbel2
      go_wp2_with fail
      refine (say_any f (w.heap.size + 1) (w.heap.size + 1 + 1) pa pb _ hb1 hb2 hm2 hKf2 (hKp2.cell 0) hKp2.lt).mono ?_
      rintro e w2 ⟨rfl, hKf3, hg2⟩
      have hK03 := blk_grown hK02 hg2 (by omega)
      have hKp3 := blk_grown hKp2 hg2 (by omega)
      have hbel3 := hbel2.grown hg2 hbel2.size (fun k hk => by cases hk; omega)
      go_wp2
      go_roundw
      case rel => exact ⟨k + 1, sayT f (pa, pb), by go_num, by omega, hK03, hKf3, hKp3, hbel3, hst2.out⟩
      case measure => simp [intOf]; omega
    · obtain rfl : k = l.length := by omega
      have hfin := Lib.hid (show readT l = f from hin.out.trans (by rw [List.drop_length]; rfl))
      clear hin
      obtain ⟨c0, c1, c2, c3, c4, c5, c6, c7, c8, c9, cf⟩ := ff_cells hKf
      obtain ⟨d0, d1, d2, d3, d4, d5, d6, d7, d8, d9, df⟩ := ff_cells hK0
      have hcp : wr.cell? ⟨w.heap.size + 1 + 1, 0, none⟩ = some (.pointer (some ⟨w.heap.size + 1, 0, none⟩)) := hKp.cell 0
      go_wp2
      have hKN := blk_all f hK0
      have hbelN := ((((((((((hbel.setCell (p := ⟨w.heap.size, 0, none⟩) (Nat.le_refl _) (.bool f.he)).setCell (p := ⟨w.heap.size, 1, none⟩) (Nat.le_refl _) (.bool f.ha)).setCell (p := ⟨w.heap.size, 2, none⟩) (Nat.le_refl _) (.bool f.hd)).setCell (p := ⟨w.heap.size, 3, none⟩) (Nat.le_refl _) (.bool f.hp)).setCell (p := ⟨w.heap.size, 4, none⟩) (Nat.le_refl _) (.int .i64 f.ex)).setCell (p := ⟨w.heap.size, 5, none⟩) (Nat.le_refl _) (.int .i64 f.ag)).setCell (p := ⟨w.heap.size, 6, none⟩) (Nat.le_refl _) (.string (S f.dm))).setCell (p := ⟨w.heap.size, 7, none⟩) (Nat.le_refl _) (.string (S f.pt))).setCell (p := ⟨w.heap.size, 8, none⟩) (Nat.le_refl _) (.bool f.sc)).setCell (p := ⟨w.heap.size, 9, none⟩) (Nat.le_refl _) (.bool f.ho))
      refine bodyPost_ret (results_cell (b := w.heap.size) (o := 0) (cs := (ffC f).toList) rfl rfl (blk_range hKN) ⟨.struct (Tryz.prog.fieldsOf 53), by kernel_rfl, rfl⟩ (by kernel_rfl)) rfl ?_
      rw [hfin.out]
      exact ⟨by rw [Array.toArray_toList], hbelN⟩
end Go.Proofs.YtgfoaopfdpclhaaGreatDoor
namespace Go.Proofs.YtgfoaopfdpclhaaGreatDoor
open Go.RowKit
set_option linter.unusedVariables false
set_option maxRecDepth 100000

theorem sayT_cases (f : Ff) (a b : List UInt8) : sayT f (a, b) = if lowerL a == exL then exT f b
  else if lowerL a == agL then agT f b
  else if lowerL a == dmL then dmT f b
  else if lowerL a == ptL then ptT f b
  else if lowerL a == scL then { f with sc := true }
  else if lowerL a == hoL then { f with ho := true }
  else f := rfl
theorem date_err1 (l : List UInt8) : (∃ v, dateT l = (v, 0)) ∨ dateT l = (0, 1) := by
  unfold dateT parseD
  by_cases h1 : (!fdFull (fdOf l) || !(fdOf l).r) = true
  · rw [if_pos h1]; exact .inr rfl
  · rw [if_neg h1]
    by_cases h2 : rightB (fullI (fdOf l).y) (fdOf l).m (fdOf l).d = true
    · rw [if_pos h2]; exact .inl ⟨_, rfl⟩
    · rw [if_neg h2]; exact .inr rfl
theorem bel_put {B : Nat} {W w : World} (h : Below B W w) (g i : Nat) (hg : B ≤ g) (v : Value) : Below B W (w.setCell ⟨g, i, none⟩ v) := h.setCell (p := ⟨g, i, none⟩) hg v
theorem blk_far {w : World} {g g' i : Nat} {t : TypeId} {cs : Array Value} (h : Blk w g t cs) (hne : g ≠ g') (v : Value) : Blk (w.setCell ⟨g', i, none⟩ v) g t cs := (heap_setCell_other w ⟨g', i, none⟩ g v hne).trans h

set_option maxRecDepth 4000 in
set_option maxHeartbeats 8000000 in
theorem refRead13_any (A : Option Addr) (n c : Nat) (l : List (List UInt8 × List UInt8)) (w : World) (h : Rd w 2 (.slice A n c) n (cellsP l)) (hl4 : ∀ p ∈ l, p.1.length ≤ 4294967296 ∧ p.2.length ≤ 4294967296) :
    Calls Tryz.prog 29 #[.slice A n c] w fun e w' => e = .returned (.agg (ffC (readT l))) ∧ Below w.heap.size w w' := by
  have hl := h.len
  have hcap := h.cap
  unfold maxLen at hcap
  obtain ⟨hca, hcb⟩ := hcap
  subst hl
  have hst := Lib.hid (show readT l = (l.drop 0).foldl sayT ff0 from rfl)
  go_enter Tryz.func29, Tryz.ntmps29
  go_wp2
  have hs0 : (w.alloc (.cells #[.bool false, .bool false, .bool false, .bool false, .int .i64 0, .int .i64 0, .string ⟨#[]⟩, .string ⟨#[]⟩, .bool false, .bool false] 66)).heap.size = w.heap.size + 1 := by simp
  have hK0 := ((Blk.new_ w 66 #[.bool false, .bool false, .bool false, .bool false, .int .i64 0, .int .i64 0, .string ⟨#[]⟩, .string ⟨#[]⟩, .bool false, .bool false]).alloc (.cells #[.bool false, .bool false, .bool false, .bool false, .int .i64 0, .int .i64 0, .string ⟨#[]⟩, .string ⟨#[]⟩, .bool false, .bool false] 66))
  have hKf := (blk_new 66 #[.bool false, .bool false, .bool false, .bool false, .int .i64 0, .int .i64 0, .string ⟨#[]⟩, .string ⟨#[]⟩, .bool false, .bool false] hs0)
  have hbel0 := bel_alloc (bel_alloc (Below.refl w.heap.size w) (.cells #[.bool false, .bool false, .bool false, .bool false, .int .i64 0, .int .i64 0, .string ⟨#[]⟩, .string ⟨#[]⟩, .bool false, .bool false] 66)) (.cells #[.bool false, .bool false, .bool false, .bool false, .int .i64 0, .int .i64 0, .string ⟨#[]⟩, .string ⟨#[]⟩, .bool false, .bool false] 66)
  clear hs0
  go_loopw [4] (fun i wr => ∃ (k : Nat) (f : Ff), i = .int .i64 k ∧ k ≤ l.length ∧ Blk wr w.heap.size 66 (ffC ff0) ∧ Blk wr (w.heap.size + 1) 66 (ffC f) ∧ Below w.heap.size w wr ∧ Hid (readT l = (l.drop k).foldl sayT f)) (fun i _ => l.length - (intOf i).toNat)
  case atStart => exact ⟨0, ff0, rfl, by omega, hK0, hKf, hbel0, hst.out⟩
  case round =>
    clear hK0 hKf hbel0 hst
    obtain ⟨k, f, rfl, hk, hK0, hKf, hbel, hin⟩ := hrel
    by_cases hlt : k < l.length
    · have hki : (k : Int) < l.length := by omega
      obtain ⟨b, off, rfl, hb, hx⟩ := (h.below hbel).pairs hlt
      obtain ⟨hxa, hxb⟩ := hx k hlt
      have hst2 := Lib.hid (hin.out.trans (run_dropF l k hlt f))
      obtain ⟨hb1, hb2⟩ := hl4 _ (List.getElem_mem hlt)
      clear hx hin
      generalize l[k] = pk at *
      obtain ⟨pa, pb⟩ := pk
      simp only at hxa hxb hb1 hb2
      have hsa : (S pa).size ≤ 4294967296 := by rw [S_size]; exact hb1
      have hsb : (S pb).size ≤ 4294967296 := by rw [S_size]; exact hb2
      have hsb2 : (S pb).size ≤ maxLen := by rw [S_size]; unfold maxLen; omega
      go_wp2_with fail
      refine (refLower_any _ _ hsa).mono ?_
      rintro e w1 ⟨rfl, hbb1⟩
      rw [S_toList]
      have hK01 := hK0.below hbb1
      have hKf1 := hKf.below hbb1
      have hbel1 := bel_call hbel hbb1
      clear hK0 hKf hbel hxa hxb hbb1 hb
      have hT0 := Lib.hid (sayT_cases f pa pb)
      generalize lowerL pa = n at *
      cases k0 : (n == exL) with
      | true =>
        have q0 : (n == [101, 120, 112, 105, 114, 101, 115]) = true := k0
        replace hT0 := Lib.hid (show sayT f (pa, pb) = exT f pb from hT0.out.trans (by simp only [k0, if_true]))
        clear k0
        obtain ⟨c0, c1, c2, c3, c4, c5, c6, c7, c8, c9, cf⟩ := ff_cells hKf1
        have hgl := hKf1.lt
        rcases date_err1 pb with ⟨v, hv⟩ | hv
        · have hT := Lib.hid (show sayT f (pa, pb) = { f with he := true, ex := v } from hT0.out.trans (by unfold exT; rw [hv]; rfl))
          have hvH := Lib.hid hv
          clear hT0 hv
          go_wp2_with fail
          refine (refParse_any (S pb) _ hsb).mono ?_
          rintro e w2 ⟨rfl, hbb2⟩
          rw [S_toList, hvH.out]
          replace hK01 := hK01.below hbb2
          replace hKf1 := hKf1.below hbb2
          replace hbel1 := bel_call hbel1 hbb2
          clear hbb2 c0 c1 c2 c3 c4 c5 c6 c7 c8 c9 cf hgl
          obtain ⟨c0, c1, c2, c3, c4, c5, c6, c7, c8, c9, cf⟩ := ff_cells hKf1
          have hgl := hKf1.lt
          replace hst2 := Lib.hid (hst2.out.trans (congrArg (fun z => List.foldl sayT z (l.drop (k + 1))) hT.out))
          clear hT
          go_wp2
          go_roundw
          case rel => exact ⟨k + 1, { f with he := true, ex := v }, by go_num, by omega, (blk_far (i := 4) (blk_far (i := 0) hK01 (by omega) (.bool true)) (by omega) (.int .i64 v)), ((hKf1.put 0 (.bool true)).put 4 (.int .i64 v)), (bel_put (bel_put hbel1 (w.heap.size + 1) 0 (by omega) (.bool true)) (w.heap.size + 1) 4 (by omega) (.int .i64 v)), hst2.out⟩
          case measure => simp [intOf]; omega
        · have hT := Lib.hid (show sayT f (pa, pb) = f from hT0.out.trans (by unfold exT; rw [hv]; rfl))
          have hvH := Lib.hid hv
          clear hT0 hv
          go_wp2_with fail
          refine (refParse_any (S pb) _ hsb).mono ?_
          rintro e w2 ⟨rfl, hbb2⟩
          rw [S_toList, hvH.out]
          replace hK01 := hK01.below hbb2
          replace hKf1 := hKf1.below hbb2
          replace hbel1 := bel_call hbel1 hbb2
          clear hbb2 c0 c1 c2 c3 c4 c5 c6 c7 c8 c9 cf hgl
          replace hst2 := Lib.hid (hst2.out.trans (congrArg (fun z => List.foldl sayT z (l.drop (k + 1))) hT.out))
          clear hT
          go_wp2
          go_roundw
          case rel => exact ⟨k + 1, f, by go_num, by omega, hK01, hKf1, hbel1, hst2.out⟩
          case measure => simp [intOf]; omega
      | false =>
        have q0 : (n == [101, 120, 112, 105, 114, 101, 115]) = false := k0
        cases k1 : (n == agL) with
        | true =>
          have q1 : (n == [109, 97, 120, 45, 97, 103, 101]) = true := k1
          replace hT0 := Lib.hid (show sayT f (pa, pb) = agT f pb from hT0.out.trans (by simp only [k0, k1, Bool.false_eq_true, if_false, if_true]))
          clear k1
          obtain ⟨c0, c1, c2, c3, c4, c5, c6, c7, c8, c9, cf⟩ := ff_cells hKf1
          have hgl := hKf1.lt
          cases hn : numOk pb with
          | true =>
            have hT := Lib.hid (show sayT f (pa, pb) = { f with ha := true, ag := numV pb } from hT0.out.trans (by unfold agT; rw [hn]; rfl))
            have hnH := Lib.hid hn
            clear hT0 hn
            go_wp2_with fail
            refine (refNumber_any (S pb) _ hsb2).mono ?_
            rintro e w' ⟨rfl, rfl⟩
            rw [S_toList, hnH.out]
            generalize numV pb = v at *
            replace hst2 := Lib.hid (hst2.out.trans (congrArg (fun z => List.foldl sayT z (l.drop (k + 1))) hT.out))
            clear hT
            go_wp2
            go_roundw
            case rel => exact ⟨k + 1, { f with ha := true, ag := v }, by go_num, by omega, (blk_far (i := 5) (blk_far (i := 1) hK01 (by omega) (.bool true)) (by omega) (.int .i64 v)), ((hKf1.put 1 (.bool true)).put 5 (.int .i64 v)), (bel_put (bel_put hbel1 (w.heap.size + 1) 1 (by omega) (.bool true)) (w.heap.size + 1) 5 (by omega) (.int .i64 v)), hst2.out⟩
            case measure => simp [intOf]; omega
          | false =>
            have hT := Lib.hid (show sayT f (pa, pb) = f from hT0.out.trans (by unfold agT; rw [hn]; rfl))
            have hnH := Lib.hid hn
            clear hT0 hn
            go_wp2_with fail
            refine (refNumber_any (S pb) _ hsb2).mono ?_
            rintro e w' ⟨rfl, rfl⟩
            rw [S_toList, hnH.out]
            generalize numV pb = v at *
            replace hst2 := Lib.hid (hst2.out.trans (congrArg (fun z => List.foldl sayT z (l.drop (k + 1))) hT.out))
            clear hT
            go_wp2
            go_roundw
            case rel => exact ⟨k + 1, f, by go_num, by omega, hK01, hKf1, hbel1, hst2.out⟩
            case measure => simp [intOf]; omega
        | false =>
          have q1 : (n == [109, 97, 120, 45, 97, 103, 101]) = false := k1
          cases k2 : (n == dmL) with
          | true =>
            have q2 : (n == [100, 111, 109, 97, 105, 110]) = true := k2
            replace hT0 := Lib.hid (show sayT f (pa, pb) = dmT f pb from hT0.out.trans (by simp only [k0, k1, k2, Bool.false_eq_true, if_false, if_true]))
            clear k2
            obtain ⟨c0, c1, c2, c3, c4, c5, c6, c7, c8, c9, cf⟩ := ff_cells hKf1
            have hgl := hKf1.lt
            cases pb with
            | nil =>
              have hT := Lib.hid (show sayT f (pa, []) = f from hT0.out)
              clear hT0
              replace hst2 := Lib.hid (hst2.out.trans (congrArg (fun z => List.foldl sayT z (l.drop (k + 1))) hT.out))
              clear hT
              go_wp2
              go_roundw
              case rel => exact ⟨k + 1, f, by go_num, by omega, hK01, hKf1, hbel1, hst2.out⟩
              case measure => simp [intOf]; omega
            | cons pc pr =>
              have hg0 := S_get0 pc pr
              cases h46 : (pc == 46) with
              | true =>
                have hT := Lib.hid (show sayT f (pa, pc :: pr) = { f with hd := true, dm := lowerL pr } from hT0.out.trans (by simp only [dmT, h46, if_true]))
                have hne : ((pc.toNat : Int) == 46) = true := by rw [eqc (i := 46) 46 rfl]; exact h46
                clear hT0 h46
                go_wp2_with fail
                refine (refLower_any (S (pc :: pr)) _ hsb).mono ?_
                rintro e w2 ⟨rfl, hbb2⟩
                rw [S_toList]
                replace hK01 := (blk_far (i := 2) hK01 (show w.heap.size ≠ w.heap.size + 1 by omega) (.bool true)).below hbb2
                replace hKf1 := (hKf1.put 2 (.bool true)).below hbb2
                replace hbel1 := bel_call (bel_put hbel1 (w.heap.size + 1) 2 (by omega) (.bool true)) hbb2
                clear hbb2 c0 c1 c2 c3 c4 c5 c6 c7 c8 c9 cf hgl
                replace hKf1 : Blk w2 (w.heap.size + 1) 66 (ffC { f with hd := true }) := hKf1
                obtain ⟨c0, c1, c2, c3, c4, c5, c6, c7, c8, c9, cf⟩ := ff_cells hKf1
                have hgl := hKf1.lt
                have hlow : lowerL (pc :: pr) = lowC pc :: lowerL pr := rfl
                have hx := Lib.hid (extract_S1 (lowC pc) (lowerL pr))
                have hll : (lowerL pr).length + 1 = (lowerL (pc :: pr)).length := rfl
                rw [hlow]
                generalize lowC pc = lc at *
                generalize lowerL pr = lr at *
                clear hll hlow
                go_wp2
                rw [hx.out]
                replace hst2 := Lib.hid (hst2.out.trans (congrArg (fun z => List.foldl sayT z (l.drop (k + 1))) hT.out))
                clear hT
                go_roundw
                case rel => exact ⟨k + 1, { f with hd := true, dm := lr }, by go_num, by omega, (blk_far (i := 6) (blk_far (i := 6) hK01 (by omega) (.string (S (lc :: lr)))) (by omega) (.string (S lr))), ((hKf1.put 6 (.string (S (lc :: lr)))).put 6 (.string (S lr))), (bel_put (bel_put hbel1 (w.heap.size + 1) 6 (by omega) (.string (S (lc :: lr)))) (w.heap.size + 1) 6 (by omega) (.string (S lr))), hst2.out⟩
                case measure => simp [intOf]; omega
              | false =>
                have hT := Lib.hid (show sayT f (pa, pc :: pr) = { f with hd := true, dm := lowerL (pc :: pr) } from hT0.out.trans (by simp only [dmT, h46, Bool.false_eq_true, if_false]))
                have hne : ((pc.toNat : Int) == 46) = false := by rw [eqc (i := 46) 46 rfl]; exact h46
                clear hT0 h46
                go_wp2_with fail
                refine (refLower_any (S (pc :: pr)) _ hsb).mono ?_
                rintro e w2 ⟨rfl, hbb2⟩
                rw [S_toList]
                replace hK01 := (blk_far (i := 2) hK01 (show w.heap.size ≠ w.heap.size + 1 by omega) (.bool true)).below hbb2
                replace hKf1 := (hKf1.put 2 (.bool true)).below hbb2
                replace hbel1 := bel_call (bel_put hbel1 (w.heap.size + 1) 2 (by omega) (.bool true)) hbb2
                clear hbb2 c0 c1 c2 c3 c4 c5 c6 c7 c8 c9 cf hgl
                replace hKf1 : Blk w2 (w.heap.size + 1) 66 (ffC { f with hd := true }) := hKf1
                obtain ⟨c0, c1, c2, c3, c4, c5, c6, c7, c8, c9, cf⟩ := ff_cells hKf1
                have hgl := hKf1.lt
                replace hst2 := Lib.hid (hst2.out.trans (congrArg (fun z => List.foldl sayT z (l.drop (k + 1))) hT.out))
                clear hT
                go_wp2
                go_roundw
                case rel => exact ⟨k + 1, { f with hd := true, dm := lowerL (pc :: pr) }, by go_num, by omega, (blk_far (i := 6) hK01 (by omega) (.string (S (lowerL (pc :: pr))))), (hKf1.put 6 (.string (S (lowerL (pc :: pr))))), (bel_put hbel1 (w.heap.size + 1) 6 (by omega) (.string (S (lowerL (pc :: pr))))), hst2.out⟩
                case measure => simp [intOf]; omega
          | false =>
            have q2 : (n == [100, 111, 109, 97, 105, 110]) = false := k2
            cases k3 : (n == ptL) with
            | true =>
              have q3 : (n == [112, 97, 116, 104]) = true := k3
              replace hT0 := Lib.hid (show sayT f (pa, pb) = ptT f pb from hT0.out.trans (by simp only [k0, k1, k2, k3, Bool.false_eq_true, if_false, if_true]))
              clear k3
              obtain ⟨c0, c1, c2, c3, c4, c5, c6, c7, c8, c9, cf⟩ := ff_cells hKf1
              have hgl := hKf1.lt
              cases pb with
              | nil =>
                have hT := Lib.hid (show sayT f (pa, []) = { f with hp := false, pt := [] } from hT0.out)
                clear hT0
                replace hst2 := Lib.hid (hst2.out.trans (congrArg (fun z => List.foldl sayT z (l.drop (k + 1))) hT.out))
                clear hT
                go_wp2
                go_roundw
                case rel => exact ⟨k + 1, { f with hp := false, pt := [] }, by go_num, by omega, (blk_far (i := 7) (blk_far (i := 7) (blk_far (i := 3) hK01 (by omega) (.bool false)) (by omega) (.string (S []))) (by omega) (.string (S []))), (((hKf1.put 3 (.bool false)).put 7 (.string (S []))).put 7 (.string (S []))), (bel_put (bel_put (bel_put hbel1 (w.heap.size + 1) 3 (by omega) (.bool false)) (w.heap.size + 1) 7 (by omega) (.string (S []))) (w.heap.size + 1) 7 (by omega) (.string (S []))), hst2.out⟩
                case measure => simp [intOf]; omega
              | cons pc pr =>
                have hg0 := S_get0 pc pr
                cases h47 : (pc == 47) with
                | true =>
                  have hT := Lib.hid (show sayT f (pa, pc :: pr) = { f with hp := true, pt := pc :: pr } from hT0.out.trans (by simp only [ptT, h47, if_true]))
                  have hne : ((pc.toNat : Int) == 47) = true := by rw [eqc (i := 47) 47 rfl]; exact h47
                  clear hT0 h47
                  replace hst2 := Lib.hid (hst2.out.trans (congrArg (fun z => List.foldl sayT z (l.drop (k + 1))) hT.out))
                  clear hT
                  go_wp2
                  go_roundw
                  case rel => exact ⟨k + 1, { f with hp := true, pt := pc :: pr }, by go_num, by omega, (blk_far (i := 7) (blk_far (i := 3) hK01 (by omega) (.bool true)) (by omega) (.string (S (pc :: pr)))), ((hKf1.put 3 (.bool true)).put 7 (.string (S (pc :: pr)))), (bel_put (bel_put hbel1 (w.heap.size + 1) 3 (by omega) (.bool true)) (w.heap.size + 1) 7 (by omega) (.string (S (pc :: pr)))), hst2.out⟩
                  case measure => simp [intOf]; omega
                | false =>
                  have hT := Lib.hid (show sayT f (pa, pc :: pr) = { f with hp := false, pt := [] } from hT0.out.trans (by simp only [ptT, h47, Bool.false_eq_true, if_false]))
                  have hne : ((pc.toNat : Int) == 47) = false := by rw [eqc (i := 47) 47 rfl]; exact h47
                  clear hT0 h47
                  replace hst2 := Lib.hid (hst2.out.trans (congrArg (fun z => List.foldl sayT z (l.drop (k + 1))) hT.out))
                  clear hT
                  go_wp2
                  go_roundw
                  case rel => exact ⟨k + 1, { f with hp := false, pt := [] }, by go_num, by omega, (blk_far (i := 7) (blk_far (i := 7) (blk_far (i := 3) hK01 (by omega) (.bool false)) (by omega) (.string (S (pc :: pr)))) (by omega) (.string (S []))), (((hKf1.put 3 (.bool false)).put 7 (.string (S (pc :: pr)))).put 7 (.string (S []))), (bel_put (bel_put (bel_put hbel1 (w.heap.size + 1) 3 (by omega) (.bool false)) (w.heap.size + 1) 7 (by omega) (.string (S (pc :: pr)))) (w.heap.size + 1) 7 (by omega) (.string (S []))), hst2.out⟩
                  case measure => simp [intOf]; omega
            | false =>
              have q3 : (n == [112, 97, 116, 104]) = false := k3
              cases k4 : (n == scL) with
              | true =>
                have q4 : (n == [115, 101, 99, 117, 114, 101]) = true := k4
                have hT := Lib.hid (show sayT f (pa, pb) = { f with sc := true } from hT0.out.trans (by simp only [k0, k1, k2, k3, k4, Bool.false_eq_true, if_false, if_true]))
                clear hT0 k4
                obtain ⟨c0, c1, c2, c3, c4, c5, c6, c7, c8, c9, cf⟩ := ff_cells hKf1
                have hgl := hKf1.lt
                replace hst2 := Lib.hid (hst2.out.trans (congrArg (fun z => List.foldl sayT z (l.drop (k + 1))) hT.out))
                clear hT
                go_wp2
                go_roundw
                case rel => exact ⟨k + 1, { f with sc := true }, by go_num, by omega, (blk_far (i := 8) hK01 (by omega) (.bool true)), (hKf1.put 8 (.bool true)), (bel_put hbel1 (w.heap.size + 1) 8 (by omega) (.bool true)), hst2.out⟩
                case measure => simp [intOf]; omega
              | false =>
                have q4 : (n == [115, 101, 99, 117, 114, 101]) = false := k4
                cases k5 : (n == hoL) with
                | true =>
                  have q5 : (n == [104, 116, 116, 112, 111, 110, 108, 121]) = true := k5
                  have hT := Lib.hid (show sayT f (pa, pb) = { f with ho := true } from hT0.out.trans (by simp only [k0, k1, k2, k3, k4, k5, Bool.false_eq_true, if_false, if_true]))
                  clear hT0 k5
                  obtain ⟨c0, c1, c2, c3, c4, c5, c6, c7, c8, c9, cf⟩ := ff_cells hKf1
                  have hgl := hKf1.lt
                  replace hst2 := Lib.hid (hst2.out.trans (congrArg (fun z => List.foldl sayT z (l.drop (k + 1))) hT.out))
                  clear hT
                  go_wp2
                  go_roundw
                  case rel => exact ⟨k + 1, { f with ho := true }, by go_num, by omega, (blk_far (i := 9) hK01 (by omega) (.bool true)), (hKf1.put 9 (.bool true)), (bel_put hbel1 (w.heap.size + 1) 9 (by omega) (.bool true)), hst2.out⟩
                  case measure => simp [intOf]; omega
                | false =>
                  have q5 : (n == [104, 116, 116, 112, 111, 110, 108, 121]) = false := k5
                  have hT := Lib.hid (show sayT f (pa, pb) = f from hT0.out.trans (by simp only [k0, k1, k2, k3, k4, k5, Bool.false_eq_true, if_false]))
                  clear hT0
                  replace hst2 := Lib.hid (hst2.out.trans (congrArg (fun z => List.foldl sayT z (l.drop (k + 1))) hT.out))
                  clear hT
                  go_wp2
                  go_roundw
                  case rel => exact ⟨k + 1, f, by go_num, by omega, hK01, hKf1, hbel1, hst2.out⟩
                  case measure => simp [intOf]; omega
    · obtain rfl : k = l.length := by omega
      have hfin := Lib.hid (show readT l = f from hin.out.trans (by rw [List.drop_length]; rfl))
      clear hin
      obtain ⟨c0, c1, c2, c3, c4, c5, c6, c7, c8, c9, cf⟩ := ff_cells hKf
      obtain ⟨d0, d1, d2, d3, d4, d5, d6, d7, d8, d9, df⟩ := ff_cells hK0
      go_wp2
      have hKN := blk_all f hK0
      have hbelN := ((((((((((hbel.setCell (p := ⟨w.heap.size, 0, none⟩) (Nat.le_refl _) (.bool f.he)).setCell (p := ⟨w.heap.size, 1, none⟩) (Nat.le_refl _) (.bool f.ha)).setCell (p := ⟨w.heap.size, 2, none⟩) (Nat.le_refl _) (.bool f.hd)).setCell (p := ⟨w.heap.size, 3, none⟩) (Nat.le_refl _) (.bool f.hp)).setCell (p := ⟨w.heap.size, 4, none⟩) (Nat.le_refl _) (.int .i64 f.ex)).setCell (p := ⟨w.heap.size, 5, none⟩) (Nat.le_refl _) (.int .i64 f.ag)).setCell (p := ⟨w.heap.size, 6, none⟩) (Nat.le_refl _) (.string (S f.dm))).setCell (p := ⟨w.heap.size, 7, none⟩) (Nat.le_refl _) (.string (S f.pt))).setCell (p := ⟨w.heap.size, 8, none⟩) (Nat.le_refl _) (.bool f.sc)).setCell (p := ⟨w.heap.size, 9, none⟩) (Nat.le_refl _) (.bool f.ho))
      refine bodyPost_ret (results_cell (b := w.heap.size) (o := 0) (cs := (ffC f).toList) rfl rfl (blk_range hKN) ⟨.struct (Tryz.prog.fieldsOf 66), by kernel_rfl, rfl⟩ (by kernel_rfl)) rfl ?_
      rw [hfin.out]
      exact ⟨by rw [Array.toArray_toList], hbelN⟩
end Go.Proofs.YtgfoaopfdpclhaaGreatDoor
namespace Go.Proofs.YtgfoaopfdpclhaaGreatDoor
open Go.RowKit
set_option linter.unusedVariables false
set_option maxRecDepth 100000

def clampN (now : Int) : Int := if now < 0 then 0 else if 1099511627776 < now then 1099511627776 else now
theorem clampN_bd (now : Int) : 0 ≤ clampN now ∧ clampN now ≤ 1099511627776 := by unfold clampN; split <;> (try split) <;> omega
def expI (f : Ff) (now : Int) : Int × Bool :=
  if f.ha then (if f.ag ≤ 0 then (-1099511627776, true) else if 1099511627776 - clampN now < f.ag then (1099511627776, true) else (clampN now + f.ag, true))
  else if f.he then (f.ex, true) else (1099511627776, false)

set_option maxRecDepth 4000 in
set_option maxHeartbeats 4000000 in
theorem expiry_any (f : Ff) (now : Int) (w : World) (h1 : -9223372036854775808 ≤ now) (h2 : now ≤ 9223372036854775807) :
    Calls Tryz.prog 25 #[.agg (ffC f), .int .i64 now] w fun e w' => e = .returned (.tuple #[.int .i64 (expI f now).1, .bool (expI f now).2]) ∧ Below w.heap.size w w' := by
  obtain ⟨he, ha, hd, hp, ex, ag, dm, pt, sc, ho⟩ := f
  have hT := Lib.hid (show expI ⟨he, ha, hd, hp, ex, ag, dm, pt, sc, ho⟩ now = (if ha then (if ag ≤ 0 then (-1099511627776, true) else if 1099511627776 - clampN now < ag then (1099511627776, true) else (clampN now + ag, true))
  else if he then (ex, true) else (1099511627776, false)) from rfl)
  have hcl : (now < 0 ∧ clampN now = 0) ∨ (0 ≤ now ∧ 1099511627776 < now ∧ clampN now = 1099511627776) ∨ (0 ≤ now ∧ now ≤ 1099511627776 ∧ clampN now = now) := by
    unfold clampN
    by_cases c1 : now < 0
    · exact .inl ⟨c1, if_pos c1⟩
    · rw [if_neg c1]
      by_cases c2 : 1099511627776 < now
      · exact .inr (.inl ⟨by omega, c2, if_pos c2⟩)
      · exact .inr (.inr ⟨by omega, by omega, if_neg c2⟩)
  unfold ffC
  simp only
  rcases hcl with ⟨c1, c3⟩ | ⟨c1, c2, c3⟩ | ⟨c1, c2, c3⟩
  · rw [c3] at hT
    clear c3
    cases ha with
    | true =>
      by_cases g1 : ag ≤ 0
      · have hE := Lib.hid (hT.out.trans (by rw [if_pos rfl, if_pos g1]))
        clear hT
        go_enter Tryz.func25, Tryz.ntmps25
        go_wp2
        go_ret2
        rw [hE.out]
        exact ⟨ret_two (by first | rfl | (show ag = 0 + ag; omega) | (show now + (1099511627776 - now) = 1099511627776; omega)) rfl, (Below.refl _ _).alloc (Nat.le_refl _) _⟩
      · by_cases g2 : 1099511627776 - (0 : Int) < ag
        · have hE := Lib.hid (hT.out.trans (by rw [if_pos rfl, if_neg g1, if_pos g2]))
          have g1' : 0 < ag := by omega
          clear g1
          clear hT
          go_enter Tryz.func25, Tryz.ntmps25
          go_wp2
          go_ret2
          rw [hE.out]
          exact ⟨ret_two (by first | rfl | (show ag = 0 + ag; omega) | (show now + (1099511627776 - now) = 1099511627776; omega)) rfl, (Below.refl _ _).alloc (Nat.le_refl _) _⟩
        · have hE := Lib.hid (hT.out.trans (by rw [if_pos rfl, if_neg g1, if_neg g2]))
          have g1' : 0 < ag := by omega
          have g2' : ag ≤ 1099511627776 - (0 : Int) := by omega
          clear g1 g2
          clear hT
          go_enter Tryz.func25, Tryz.ntmps25
          go_wp2
          go_ret2
          rw [hE.out]
          exact ⟨ret_two (by first | rfl | (show ag = 0 + ag; omega) | (show now + (1099511627776 - now) = 1099511627776; omega)) rfl, (Below.refl _ _).alloc (Nat.le_refl _) _⟩
    | false =>
      cases he with
      | true =>
        have hE := Lib.hid (hT.out.trans (by rw [if_neg (by decide), if_pos rfl]))
        clear hT
        go_enter Tryz.func25, Tryz.ntmps25
        go_wp2
        go_ret2
        rw [hE.out]
        exact ⟨ret_two (by first | rfl | (show ag = 0 + ag; omega) | (show now + (1099511627776 - now) = 1099511627776; omega)) rfl, (Below.refl _ _).alloc (Nat.le_refl _) _⟩
      | false =>
        have hE := Lib.hid (hT.out.trans (by rw [if_neg (by decide), if_neg (by decide)]))
        clear hT
        go_enter Tryz.func25, Tryz.ntmps25
        go_wp2
        go_ret2
        rw [hE.out]
        exact ⟨ret_two (by first | rfl | (show ag = 0 + ag; omega) | (show now + (1099511627776 - now) = 1099511627776; omega)) rfl, (Below.refl _ _).alloc (Nat.le_refl _) _⟩
  · rw [c3] at hT
    clear c3
    cases ha with
    | true =>
      by_cases g1 : ag ≤ 0
      · have hE := Lib.hid (hT.out.trans (by rw [if_pos rfl, if_pos g1]))
        clear hT
        go_enter Tryz.func25, Tryz.ntmps25
        go_wp2
        go_ret2
        rw [hE.out]
        exact ⟨ret_two (by first | rfl | (show ag = 0 + ag; omega) | (show now + (1099511627776 - now) = 1099511627776; omega)) rfl, (Below.refl _ _).alloc (Nat.le_refl _) _⟩
      · by_cases g2 : 1099511627776 - (1099511627776 : Int) < ag
        · have hE := Lib.hid (hT.out.trans (by rw [if_pos rfl, if_neg g1, if_pos g2]))
          have g1' : 0 < ag := by omega
          clear g1
          clear hT
          go_enter Tryz.func25, Tryz.ntmps25
          go_wp2
          go_ret2
          rw [hE.out]
          exact ⟨ret_two (by first | rfl | (show ag = 0 + ag; omega) | (show now + (1099511627776 - now) = 1099511627776; omega)) rfl, (Below.refl _ _).alloc (Nat.le_refl _) _⟩
        · have hE := Lib.hid (hT.out.trans (by rw [if_pos rfl, if_neg g1, if_neg g2]))
          have g1' : 0 < ag := by omega
          have g2' : ag ≤ 1099511627776 - (1099511627776 : Int) := by omega
          clear g1 g2
          omega
    | false =>
      cases he with
      | true =>
        have hE := Lib.hid (hT.out.trans (by rw [if_neg (by decide), if_pos rfl]))
        clear hT
        go_enter Tryz.func25, Tryz.ntmps25
        go_wp2
        go_ret2
        rw [hE.out]
        exact ⟨ret_two (by first | rfl | (show ag = 0 + ag; omega) | (show now + (1099511627776 - now) = 1099511627776; omega)) rfl, (Below.refl _ _).alloc (Nat.le_refl _) _⟩
      | false =>
        have hE := Lib.hid (hT.out.trans (by rw [if_neg (by decide), if_neg (by decide)]))
        clear hT
        go_enter Tryz.func25, Tryz.ntmps25
        go_wp2
        go_ret2
        rw [hE.out]
        exact ⟨ret_two (by first | rfl | (show ag = 0 + ag; omega) | (show now + (1099511627776 - now) = 1099511627776; omega)) rfl, (Below.refl _ _).alloc (Nat.le_refl _) _⟩
  · rw [c3] at hT
    clear c3
    cases ha with
    | true =>
      by_cases g1 : ag ≤ 0
      · have hE := Lib.hid (hT.out.trans (by rw [if_pos rfl, if_pos g1]))
        clear hT
        go_enter Tryz.func25, Tryz.ntmps25
        go_wp2
        go_ret2
        rw [hE.out]
        exact ⟨ret_two (by first | rfl | (show ag = 0 + ag; omega) | (show now + (1099511627776 - now) = 1099511627776; omega)) rfl, (Below.refl _ _).alloc (Nat.le_refl _) _⟩
      · by_cases g2 : 1099511627776 - (now : Int) < ag
        · have hE := Lib.hid (hT.out.trans (by rw [if_pos rfl, if_neg g1, if_pos g2]))
          have g1' : 0 < ag := by omega
          clear g1
          clear hT
          go_enter Tryz.func25, Tryz.ntmps25
          go_wp2
          go_ret2
          rw [hE.out]
          exact ⟨ret_two (by first | rfl | (show ag = 0 + ag; omega) | (show now + (1099511627776 - now) = 1099511627776; omega)) rfl, (Below.refl _ _).alloc (Nat.le_refl _) _⟩
        · have hE := Lib.hid (hT.out.trans (by rw [if_pos rfl, if_neg g1, if_neg g2]))
          have g1' : 0 < ag := by omega
          have g2' : ag ≤ 1099511627776 - (now : Int) := by omega
          clear g1 g2
          clear hT
          go_enter Tryz.func25, Tryz.ntmps25
          go_wp2
          go_ret2
          rw [hE.out]
          exact ⟨ret_two (by first | rfl | (show ag = 0 + ag; omega) | (show now + (1099511627776 - now) = 1099511627776; omega)) rfl, (Below.refl _ _).alloc (Nat.le_refl _) _⟩
    | false =>
      cases he with
      | true =>
        have hE := Lib.hid (hT.out.trans (by rw [if_neg (by decide), if_pos rfl]))
        clear hT
        go_enter Tryz.func25, Tryz.ntmps25
        go_wp2
        go_ret2
        rw [hE.out]
        exact ⟨ret_two (by first | rfl | (show ag = 0 + ag; omega) | (show now + (1099511627776 - now) = 1099511627776; omega)) rfl, (Below.refl _ _).alloc (Nat.le_refl _) _⟩
      | false =>
        have hE := Lib.hid (hT.out.trans (by rw [if_neg (by decide), if_neg (by decide)]))
        clear hT
        go_enter Tryz.func25, Tryz.ntmps25
        go_wp2
        go_ret2
        rw [hE.out]
        exact ⟨ret_two (by first | rfl | (show ag = 0 + ag; omega) | (show now + (1099511627776 - now) = 1099511627776; omega)) rfl, (Below.refl _ _).alloc (Nat.le_refl _) _⟩
set_option maxRecDepth 4000 in
set_option maxHeartbeats 4000000 in
theorem refExpiry_any (f : Ff) (now : Int) (w : World) (h1 : -9223372036854775808 ≤ now) (h2 : now ≤ 9223372036854775807) :
    Calls Tryz.prog 32 #[.agg (ffC f), .int .i64 now] w fun e w' => e = .returned (.tuple #[.int .i64 (expI f now).1, .bool (expI f now).2]) ∧ Below w.heap.size w w' := by
  obtain ⟨he, ha, hd, hp, ex, ag, dm, pt, sc, ho⟩ := f
  have hT := Lib.hid (show expI ⟨he, ha, hd, hp, ex, ag, dm, pt, sc, ho⟩ now = (if ha then (if ag ≤ 0 then (-1099511627776, true) else if 1099511627776 - clampN now < ag then (1099511627776, true) else (clampN now + ag, true))
  else if he then (ex, true) else (1099511627776, false)) from rfl)
  have hcl : (now < 0 ∧ clampN now = 0) ∨ (0 ≤ now ∧ 1099511627776 < now ∧ clampN now = 1099511627776) ∨ (0 ≤ now ∧ now ≤ 1099511627776 ∧ clampN now = now) := by
    unfold clampN
    by_cases c1 : now < 0
    · exact .inl ⟨c1, if_pos c1⟩
    · rw [if_neg c1]
      by_cases c2 : 1099511627776 < now
      · exact .inr (.inl ⟨by omega, c2, if_pos c2⟩)
      · exact .inr (.inr ⟨by omega, by omega, if_neg c2⟩)
  unfold ffC
  simp only
  rcases hcl with ⟨c1, c3⟩ | ⟨c1, c2, c3⟩ | ⟨c1, c2, c3⟩
  · rw [c3] at hT
    clear c3
    cases ha with
    | true =>
      by_cases g1 : ag ≤ 0
      · have hE := Lib.hid (hT.out.trans (by rw [if_pos rfl, if_pos g1]))
        clear hT
        go_enter Tryz.func32, Tryz.ntmps32
        go_wp2
        go_ret2
        rw [hE.out]
        exact ⟨ret_two (by first | rfl | (show ag = 0 + ag; omega) | (show now + (1099511627776 - now) = 1099511627776; omega)) rfl, (Below.refl _ _).alloc (Nat.le_refl _) _⟩
      · by_cases g2 : 1099511627776 - (0 : Int) < ag
        · have hE := Lib.hid (hT.out.trans (by rw [if_pos rfl, if_neg g1, if_pos g2]))
          have g1' : 0 < ag := by omega
          clear g1
          clear hT
          go_enter Tryz.func32, Tryz.ntmps32
          go_wp2
          go_ret2
          rw [hE.out]
          exact ⟨ret_two (by first | rfl | (show ag = 0 + ag; omega) | (show now + (1099511627776 - now) = 1099511627776; omega)) rfl, (Below.refl _ _).alloc (Nat.le_refl _) _⟩
        · have hE := Lib.hid (hT.out.trans (by rw [if_pos rfl, if_neg g1, if_neg g2]))
          have g1' : 0 < ag := by omega
          have g2' : ag ≤ 1099511627776 - (0 : Int) := by omega
          clear g1 g2
          clear hT
          go_enter Tryz.func32, Tryz.ntmps32
          go_wp2
          go_ret2
          rw [hE.out]
          exact ⟨ret_two (by first | rfl | (show ag = 0 + ag; omega) | (show now + (1099511627776 - now) = 1099511627776; omega)) rfl, (Below.refl _ _).alloc (Nat.le_refl _) _⟩
    | false =>
      cases he with
      | true =>
        have hE := Lib.hid (hT.out.trans (by rw [if_neg (by decide), if_pos rfl]))
        clear hT
        go_enter Tryz.func32, Tryz.ntmps32
        go_wp2
        go_ret2
        rw [hE.out]
        exact ⟨ret_two (by first | rfl | (show ag = 0 + ag; omega) | (show now + (1099511627776 - now) = 1099511627776; omega)) rfl, (Below.refl _ _).alloc (Nat.le_refl _) _⟩
      | false =>
        have hE := Lib.hid (hT.out.trans (by rw [if_neg (by decide), if_neg (by decide)]))
        clear hT
        go_enter Tryz.func32, Tryz.ntmps32
        go_wp2
        go_ret2
        rw [hE.out]
        exact ⟨ret_two (by first | rfl | (show ag = 0 + ag; omega) | (show now + (1099511627776 - now) = 1099511627776; omega)) rfl, (Below.refl _ _).alloc (Nat.le_refl _) _⟩
  · rw [c3] at hT
    clear c3
    cases ha with
    | true =>
      by_cases g1 : ag ≤ 0
      · have hE := Lib.hid (hT.out.trans (by rw [if_pos rfl, if_pos g1]))
        clear hT
        go_enter Tryz.func32, Tryz.ntmps32
        go_wp2
        go_ret2
        rw [hE.out]
        exact ⟨ret_two (by first | rfl | (show ag = 0 + ag; omega) | (show now + (1099511627776 - now) = 1099511627776; omega)) rfl, (Below.refl _ _).alloc (Nat.le_refl _) _⟩
      · by_cases g2 : 1099511627776 - (1099511627776 : Int) < ag
        · have hE := Lib.hid (hT.out.trans (by rw [if_pos rfl, if_neg g1, if_pos g2]))
          have g1' : 0 < ag := by omega
          clear g1
          clear hT
          go_enter Tryz.func32, Tryz.ntmps32
          go_wp2
          go_ret2
          rw [hE.out]
          exact ⟨ret_two (by first | rfl | (show ag = 0 + ag; omega) | (show now + (1099511627776 - now) = 1099511627776; omega)) rfl, (Below.refl _ _).alloc (Nat.le_refl _) _⟩
        · have hE := Lib.hid (hT.out.trans (by rw [if_pos rfl, if_neg g1, if_neg g2]))
          have g1' : 0 < ag := by omega
          have g2' : ag ≤ 1099511627776 - (1099511627776 : Int) := by omega
          clear g1 g2
          omega
    | false =>
      cases he with
      | true =>
        have hE := Lib.hid (hT.out.trans (by rw [if_neg (by decide), if_pos rfl]))
        clear hT
        go_enter Tryz.func32, Tryz.ntmps32
        go_wp2
        go_ret2
        rw [hE.out]
        exact ⟨ret_two (by first | rfl | (show ag = 0 + ag; omega) | (show now + (1099511627776 - now) = 1099511627776; omega)) rfl, (Below.refl _ _).alloc (Nat.le_refl _) _⟩
      | false =>
        have hE := Lib.hid (hT.out.trans (by rw [if_neg (by decide), if_neg (by decide)]))
        clear hT
        go_enter Tryz.func32, Tryz.ntmps32
        go_wp2
        go_ret2
        rw [hE.out]
        exact ⟨ret_two (by first | rfl | (show ag = 0 + ag; omega) | (show now + (1099511627776 - now) = 1099511627776; omega)) rfl, (Below.refl _ _).alloc (Nat.le_refl _) _⟩
  · rw [c3] at hT
    clear c3
    cases ha with
    | true =>
      by_cases g1 : ag ≤ 0
      · have hE := Lib.hid (hT.out.trans (by rw [if_pos rfl, if_pos g1]))
        clear hT
        go_enter Tryz.func32, Tryz.ntmps32
        go_wp2
        go_ret2
        rw [hE.out]
        exact ⟨ret_two (by first | rfl | (show ag = 0 + ag; omega) | (show now + (1099511627776 - now) = 1099511627776; omega)) rfl, (Below.refl _ _).alloc (Nat.le_refl _) _⟩
      · by_cases g2 : 1099511627776 - (now : Int) < ag
        · have hE := Lib.hid (hT.out.trans (by rw [if_pos rfl, if_neg g1, if_pos g2]))
          have g1' : 0 < ag := by omega
          clear g1
          clear hT
          go_enter Tryz.func32, Tryz.ntmps32
          go_wp2
          go_ret2
          rw [hE.out]
          exact ⟨ret_two (by first | rfl | (show ag = 0 + ag; omega) | (show now + (1099511627776 - now) = 1099511627776; omega)) rfl, (Below.refl _ _).alloc (Nat.le_refl _) _⟩
        · have hE := Lib.hid (hT.out.trans (by rw [if_pos rfl, if_neg g1, if_neg g2]))
          have g1' : 0 < ag := by omega
          have g2' : ag ≤ 1099511627776 - (now : Int) := by omega
          clear g1 g2
          clear hT
          go_enter Tryz.func32, Tryz.ntmps32
          go_wp2
          go_ret2
          rw [hE.out]
          exact ⟨ret_two (by first | rfl | (show ag = 0 + ag; omega) | (show now + (1099511627776 - now) = 1099511627776; omega)) rfl, (Below.refl _ _).alloc (Nat.le_refl _) _⟩
    | false =>
      cases he with
      | true =>
        have hE := Lib.hid (hT.out.trans (by rw [if_neg (by decide), if_pos rfl]))
        clear hT
        go_enter Tryz.func32, Tryz.ntmps32
        go_wp2
        go_ret2
        rw [hE.out]
        exact ⟨ret_two (by first | rfl | (show ag = 0 + ag; omega) | (show now + (1099511627776 - now) = 1099511627776; omega)) rfl, (Below.refl _ _).alloc (Nat.le_refl _) _⟩
      | false =>
        have hE := Lib.hid (hT.out.trans (by rw [if_neg (by decide), if_neg (by decide)]))
        clear hT
        go_enter Tryz.func32, Tryz.ntmps32
        go_wp2
        go_ret2
        rw [hE.out]
        exact ⟨ret_two (by first | rfl | (show ag = 0 + ag; omega) | (show now + (1099511627776 - now) = 1099511627776; omega)) rfl, (Below.refl _ _).alloc (Nat.le_refl _) _⟩
end Go.Proofs.YtgfoaopfdpclhaaGreatDoor
