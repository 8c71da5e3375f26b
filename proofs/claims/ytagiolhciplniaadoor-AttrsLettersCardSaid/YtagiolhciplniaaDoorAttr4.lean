/-
  What attributes say: all of them taken.
-/
import Derived.Test.YtagiolhciplniaaDoorAttr3
namespace Go.Proofs.YtagiolhciplniaaDoor
open Go.RowKit
set_option linter.unusedVariables false

theorem run_dropF (l : List (List UInt8 × List UInt8)) (k : Nat) (h : k < l.length) (f : Ff) : (l.drop k).foldl sayT f = (l.drop (k + 1)).foldl sayT (sayT f l[k]) := by
  rw [List.drop_eq_getElem_cons h, List.foldl_cons]

theorem results_cell {P : Program} {fn : Func} {a T : Nat} {tmps : Array Value} {w : World} {b o : Nat} {cs : List Value} (h : fn.results = #[.cell a T]) (ht : tmps.getD a undef = .pointer (some ⟨b, o, none⟩)) (hc : w.rangeAt b o cs)
    (hT : ∃ d, P.underlying T = some d ∧ d.isRow = true) (hi : (P.info? T).map (·.size) = some cs.length) : (results fn tmps).run P w = .ok (.agg cs.toArray) w := by
  obtain ⟨d, hu, hd⟩ := hT
  have hl := run_loadVar_mid (P := P) w b o T cs d hc hu hd hi
  rw [Array.getD_eq_getD_getElem?] at ht
  simp only [results, h]
  simp [ht, asAddr, hl]
theorem blk_range {w : World} {g : Nat} {t : TypeId} {cs : Array Value} (h : Blk w g t cs) : w.rangeAt g 0 cs.toList := fun j v hv => by
  rw [Nat.zero_add, h.cell j, ← Array.getElem?_toList]; exact hv
theorem ff_all (f f0 : Ff) : (((((((((((ffC f0).setIfInBounds 0 (.bool f.he)).setIfInBounds 1 (.bool f.ha)).setIfInBounds 2 (.bool f.hd)).setIfInBounds 3 (.bool f.hp)).setIfInBounds 4 (.int .i64 f.ex)).setIfInBounds 5 (.int .i64 f.ag)).setIfInBounds 6 (.string (S f.dm))).setIfInBounds 7 (.string (S f.pt))).setIfInBounds 8 (.bool f.sc)).setIfInBounds 9 (.bool f.ho)) = ffC f := by
  unfold ffC
  simp
theorem blk_all {w : World} {g : Nat} {t : TypeId} {f0 : Ff} (f : Ff) (h : Blk w g t (ffC f0)) : Blk ((((((((((w.setCell ⟨g, 0, none⟩ (.bool f.he)).setCell ⟨g, 1, none⟩ (.bool f.ha)).setCell ⟨g, 2, none⟩ (.bool f.hd)).setCell ⟨g, 3, none⟩ (.bool f.hp)).setCell ⟨g, 4, none⟩ (.int .i64 f.ex)).setCell ⟨g, 5, none⟩ (.int .i64 f.ag)).setCell ⟨g, 6, none⟩ (.string (S f.dm))).setCell ⟨g, 7, none⟩ (.string (S f.pt))).setCell ⟨g, 8, none⟩ (.bool f.sc)).setCell ⟨g, 9, none⟩ (.bool f.ho)) g t (ffC f) := by
  have := ((((((((((h.put 0 (.bool f.he)).put 1 (.bool f.ha)).put 2 (.bool f.hd)).put 3 (.bool f.hp)).put 4 (.int .i64 f.ex)).put 5 (.int .i64 f.ag)).put 6 (.string (S f.dm))).put 7 (.string (S f.pt))).put 8 (.bool f.sc)).put 9 (.bool f.ho))
  rw [ff_all f f0] at this
  exact this
theorem blk_new {w : World} {g : Nat} (t : TypeId) (cs : Array Value) (hg : w.heap.size = g) : Blk (w.alloc (.cells cs t)) g t cs := hg ▸ Blk.new_ w t cs
theorem blk_grown {w w' : World} {g g' : Nat} {t : TypeId} {cs : Array Value} (h : Blk w g' t cs) (hg : w.grownBy w' (some g)) (hne : g' ≠ g) : Blk w' g' t cs := (hg.block g' h.lt (fun e => hne (by injection e))).trans h
theorem rd_apart {w : World} {sz n c g : Nat} {A : Option Addr} {xs : List Value} (h : Rd w sz (.slice A n c) n xs) (hg : w.heap.size ≤ g) (hn : 0 < n) : ∀ b, (Value.slice A n c).ownBlock = some b → some g ≠ some b := by
  obtain ⟨b, off, rfl, hb, _⟩ := h.at_ hn
  intro b' hb' e
  cases e
  simp [Value.ownBlock] at hb'
  omega

set_option maxRecDepth 4000 in
set_option maxHeartbeats 1500000 in
theorem attrRead_any (A : Option Addr) (n c : Nat) (l : List (List UInt8 × List UInt8)) (w : World) (h : Rd w 2 (.slice A n c) n (cellsP l)) (hl4 : ∀ p ∈ l, p.1.length ≤ 4294967296 ∧ p.2.length ≤ 4294967296) (hm : Mon w) :
    Calls Tryd.prog 26 #[.slice A n c] w fun e w' => e = .returned (.agg (ffC (readT l))) ∧ Below w.heap.size w w' := by
  have hmf : ∀ (fn : Fn) (first cap : Array Value) (w : World), (Instr.makeFunc fn first cap).run Tryd.prog w = .ok (.func fn first cap) w := fun _ _ _ _ => rfl
  have hl := h.len
  have hcap := h.cap
  unfold maxLen at hcap
  obtain ⟨hca, hcb⟩ := hcap
  subst hl
  have hst := Lib.hid (show readT l = (l.drop 0).foldl sayT ff0 from rfl)
  go_enter Tryd.func26, Tryd.ntmps26
  go_wp2
  have hs0 : (w.alloc (.cells #[.bool false, .bool false, .bool false, .bool false, .int .i64 0, .int .i64 0, .string ⟨#[]⟩, .string ⟨#[]⟩, .bool false, .bool false] 43)).heap.size = w.heap.size + 1 := by simp
  have hs1 : ((w.alloc (.cells #[.bool false, .bool false, .bool false, .bool false, .int .i64 0, .int .i64 0, .string ⟨#[]⟩, .string ⟨#[]⟩, .bool false, .bool false] 43)).alloc (.cells #[.bool false, .bool false, .bool false, .bool false, .int .i64 0, .int .i64 0, .string ⟨#[]⟩, .string ⟨#[]⟩, .bool false, .bool false] 43)).heap.size = w.heap.size + 1 + 1 := by simp
  have hK0 := (((Blk.new_ w 43 #[.bool false, .bool false, .bool false, .bool false, .int .i64 0, .int .i64 0, .string ⟨#[]⟩, .string ⟨#[]⟩, .bool false, .bool false]).alloc (.cells #[.bool false, .bool false, .bool false, .bool false, .int .i64 0, .int .i64 0, .string ⟨#[]⟩, .string ⟨#[]⟩, .bool false, .bool false] 43)).alloc (.cells #[.pointer (some ⟨w.heap.size + 1, 0, none⟩)] 70))
  have hKf := ((blk_new 43 #[.bool false, .bool false, .bool false, .bool false, .int .i64 0, .int .i64 0, .string ⟨#[]⟩, .string ⟨#[]⟩, .bool false, .bool false] hs0).alloc (.cells #[.pointer (some ⟨w.heap.size + 1, 0, none⟩)] 70))
  have hKp := (blk_new 70 #[.pointer (some ⟨w.heap.size + 1, 0, none⟩)] hs1)
  have hbel0 := bel_alloc (bel_alloc (bel_alloc (Below.refl w.heap.size w) (.cells #[.bool false, .bool false, .bool false, .bool false, .int .i64 0, .int .i64 0, .string ⟨#[]⟩, .string ⟨#[]⟩, .bool false, .bool false] 43)) (.cells #[.bool false, .bool false, .bool false, .bool false, .int .i64 0, .int .i64 0, .string ⟨#[]⟩, .string ⟨#[]⟩, .bool false, .bool false] 43)) (.cells #[.pointer (some ⟨w.heap.size + 1, 0, none⟩)] 70)
  clear hs0 hs1
  go_loopw [12] (fun i wr => ∃ (k : Nat) (f : Ff), i = .int .i64 k ∧ k ≤ l.length ∧ Blk wr w.heap.size 43 (ffC ff0) ∧ Blk wr (w.heap.size + 1) 43 (ffC f) ∧ Blk wr (w.heap.size + 1 + 1) 70 #[.pointer (some ⟨w.heap.size + 1, 0, none⟩)] ∧ Below w.heap.size w wr ∧ Hid (readT l = (l.drop k).foldl sayT f)) (fun i _ => l.length - (intOf i).toNat)
  case atStart => exact ⟨0, ff0, rfl, by omega, hK0, hKf, hKp, hbel0, hst.out⟩
  case round =>
    clear hK0 hKf hKp hbel0 hst
    obtain ⟨k, f, rfl, hk, hK0, hKf, hKp, hbel, hin⟩ := hrel
    by_cases hlt : k < l.length
    · have hki : (k : Int) < l.length := by omega
      obtain ⟨b, off, rfl, hb, hx⟩ := (h.below hbel).pairs hlt
      obtain ⟨hxa, hxb⟩ := hx k hlt
      have hst2 := Lib.hid (hin.out.trans (run_dropF l k hlt f))
      obtain ⟨hb1, hb2⟩ := hl4 _ (List.getElem_mem hlt)
      clear hx hin
      generalize l[k] = pk at *
      obtain ⟨pa, pb⟩ := pk
      simp only at hxa hxb hb1 hb2
      have hKf2 := hKf.alloc (.cells #[.string (S pa), .string (S pb)] 69)
      have hK02 := hK0.alloc (.cells #[.string (S pa), .string (S pb)] 69)
      have hKp2 := hKp.alloc (.cells #[.string (S pa), .string (S pb)] 69)
      have hbel2 := bel_alloc hbel (.cells #[.string (S pa), .string (S pb)] 69)
      have hm2 := hm.next hbel2
      go_wp2_with fail
      refine (say_any f (w.heap.size + 1) (w.heap.size + 1 + 1) pa pb _ hb1 hb2 hm2 hKf2 (hKp2.cell 0) hKp2.lt).mono ?_
      rintro e w2 ⟨rfl, hKf3, hg2⟩
      have hK03 := blk_grown hK02 hg2 (by omega)
      have hKp3 := blk_grown hKp2 hg2 (by omega)
      have hbel3 := hbel2.grown hg2 hbel2.size (fun k hk => by cases hk; omega)
      go_wp2
      go_roundw
      case rel => exact ⟨k + 1, sayT f (pa, pb), by go_num, by omega, hK03, hKf3, hKp3, hbel3, hst2.out⟩
      case measure => simp [intOf]; omega
    · obtain rfl : k = l.length := by omega
      have hfin := Lib.hid (show readT l = f from hin.out.trans (by rw [List.drop_length]; rfl))
      clear hin
      obtain ⟨c0, c1, c2, c3, c4, c5, c6, c7, c8, c9, cf⟩ := ff_cells hKf
      obtain ⟨d0, d1, d2, d3, d4, d5, d6, d7, d8, d9, df⟩ := ff_cells hK0
      have hcp : wr.cell? ⟨w.heap.size + 1 + 1, 0, none⟩ = some (.pointer (some ⟨w.heap.size + 1, 0, none⟩)) := hKp.cell 0
      go_wp2
      have hKN := blk_all f hK0
      have hbelN := ((((((((((hbel.setCell (p := ⟨w.heap.size, 0, none⟩) (Nat.le_refl _) (.bool f.he)).setCell (p := ⟨w.heap.size, 1, none⟩) (Nat.le_refl _) (.bool f.ha)).setCell (p := ⟨w.heap.size, 2, none⟩) (Nat.le_refl _) (.bool f.hd)).setCell (p := ⟨w.heap.size, 3, none⟩) (Nat.le_refl _) (.bool f.hp)).setCell (p := ⟨w.heap.size, 4, none⟩) (Nat.le_refl _) (.int .i64 f.ex)).setCell (p := ⟨w.heap.size, 5, none⟩) (Nat.le_refl _) (.int .i64 f.ag)).setCell (p := ⟨w.heap.size, 6, none⟩) (Nat.le_refl _) (.string (S f.dm))).setCell (p := ⟨w.heap.size, 7, none⟩) (Nat.le_refl _) (.string (S f.pt))).setCell (p := ⟨w.heap.size, 8, none⟩) (Nat.le_refl _) (.bool f.sc)).setCell (p := ⟨w.heap.size, 9, none⟩) (Nat.le_refl _) (.bool f.ho))
      refine bodyPost_ret (results_cell (b := w.heap.size) (o := 0) (cs := (ffC f).toList) rfl rfl (blk_range hKN) ⟨.struct (Tryd.prog.fieldsOf 43), by kernel_rfl, rfl⟩ (by kernel_rfl)) rfl ?_
      rw [hfin.out]
      exact ⟨by rw [Array.toArray_toList], hbelN⟩
end Go.Proofs.YtagiolhciplniaaDoor
