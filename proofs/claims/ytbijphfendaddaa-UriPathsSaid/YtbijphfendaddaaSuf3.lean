/-
  The walks of package suffix: rules.
-/
import Derived.Test.YtbijphfendaddaaSuf2
namespace Go.Proofs.Ytbijphfendaddaa
open Go.RowKit
set_option linter.unusedVariables false

theorem blk_new {w : World} {g : Nat} (t : TypeId) (cs : Array Value) (hg : w.heap.size = g) : Blk (w.alloc (.cells cs t)) g t cs := hg ▸ Blk.new_ w t cs
theorem blk_range {w : World} {g : Nat} {t : TypeId} {cs : Array Value} (h : Blk w g t cs) : w.rangeAt g 0 cs.toList := fun j v hv => by
  rw [Nat.zero_add, h.cell j, ← Array.getElem?_toList]; exact hv
theorem Blk.put {w : World} {g : Nat} {t : TypeId} {cs : Array Value} (h : Blk w g t cs) (i : Nat) (v : Value) : Blk (w.setCell ⟨g, i, none⟩ v) g t (cs.setIfInBounds i v) := heap_setCell_same w g i cs t v h
theorem blk_far {w : World} {g g' i : Nat} {t : TypeId} {cs : Array Value} (h : Blk w g t cs) (hne : g ≠ g') (v : Value) : Blk (w.setCell ⟨g', i, none⟩ v) g t cs := (heap_setCell_other w ⟨g', i, none⟩ g v hne).trans h
theorem results_cell2 {P : Program} {fn : Func} {a T u : Nat} {tmps : Array Value} {w : World} {b o : Nat} {cs : List Value} (h : fn.results = #[.cell a T, .tmp u]) (ht : tmps.getD a undef = .pointer (some ⟨b, o, none⟩)) (hc : w.rangeAt b o cs)
    (hT : ∃ d, P.underlying T = some d ∧ d.isRow = true) (hi : (P.info? T).map (·.size) = some cs.length) : (results fn tmps).run P w = .ok (.tuple #[.agg cs.toArray, tmps.getD u undef]) w := by
  obtain ⟨d, hu, hd⟩ := hT
  have hl := run_loadVar_mid (P := P) w b o T cs d hc hu hd hi
  rw [Array.getD_eq_getD_getElem?] at ht
  simp only [results, h]
  simp [ht, asAddr, hl]
theorem Try.rowR : ∃ d, Try.prog.underlying 47 = some d ∧ d.isRow = true := ⟨.struct (Try.prog.fieldsOf 47), by kernel_rfl, rfl⟩
def ruC (r : Ru) : Array Value := #[.string (S r.nm), .bool r.an, .bool r.nt]
theorem split_pos (l : List UInt8) : 0 < (splitL l 46).length := List.length_pos_iff.2 (split_ne l 46)
theorem rule_len (l : List UInt8) : (ruleT l).nm.length ≤ l.length := by
  unfold ruleT
  split
  · simp
  · split
    · simp
    · simp

set_option maxRecDepth 4000 in
set_option maxHeartbeats 2000000 in
theorem parse_any (l : List UInt8) (w : World) (hl : l.length ≤ 4294967296) :
    Calls Try.prog 31 #[.string (S l)] w fun e w' => e = .returned (.tuple #[.agg (ruC (ruleT l)), .bool (ruleOk l)]) ∧ Below w.heap.size w w' := by
  have hz : (S l).size ≤ maxLen := by rw [S_size]; unfold maxLen; omega
  have hz1 : (ByteArray.mk #[42, 46]).size ≤ maxLen := by decide
  have hz2 : (ByteArray.mk #[33]).size ≤ maxLen := by decide
  have hrl := rule_len l
  have hnz : (S (ruleT l).nm).size ≤ 4294967296 := by rw [S_size]; omega
  have hcs : (Lib.hasPrefix l [42, 46] = true ∧ ruleT l = ⟨l.drop 2, true, false⟩) ∨ (Lib.hasPrefix l [42, 46] = false ∧ Lib.hasPrefix l [33] = true ∧ ruleT l = ⟨l.drop 1, false, true⟩) ∨ (Lib.hasPrefix l [42, 46] = false ∧ Lib.hasPrefix l [33] = false ∧ ruleT l = ⟨l, false, false⟩) := by
    unfold ruleT
    cases h1 : Lib.hasPrefix l [42, 46] with
    | true => exact .inl ⟨rfl, if_pos rfl⟩
    | false =>
      cases h2 : Lib.hasPrefix l [33] with
      | true => exact .inr (.inl ⟨rfl, rfl, by rw [if_neg (by decide), if_pos rfl]⟩)
      | false => exact .inr (.inr ⟨rfl, rfl, by rw [if_neg (by decide), if_neg (by decide)]⟩)
  have hok0 := Lib.hid (show ruleOk l = (nameB (ruleT l).nm && (!(ruleT l).nt || decide (1 < (splitL (ruleT l).nm 46).length))) from rfl)
  rcases hcs with ⟨hp1, hT⟩ | ⟨hp1, hp2, hT⟩ | ⟨hp1, hp2, hT⟩
  · rw [hT] at hok0 hnz hrl ⊢
    simp only at hok0 hnz hrl
    have hp1H := Lib.hid hp1
    have h2l : 2 ≤ l.length := by
      match l, hp1 with
      | [], h => cases h
      | [a], h => simp [Lib.hasPrefix] at h
      | a :: b :: r, _ => simp
    have h2i : (2 : Int) ≤ l.length := by omega
    have hx : (S l).extract 2 l.length = S (l.drop 2) := by rw [show l.length = (S l).size from (S_size l).symm, extract_from, S_toList]
    clear hp1 hT
    generalize hNM : l.drop 2 = nm at *
    clear hNM
    go_enter Try.func31, Try.ntmps31
    go_wp2_with fail
    refine (hasPrefix_any (S l) _ _ hz hz1).mono ?_
    rintro e w' ⟨rfl, rfl⟩
    rw [S_toList, show (ByteArray.mk #[42, 46]).toList = [42, 46] from S_toList [42, 46], hp1H.out]
    go_wp2_with fail
    have hs0 : (w.alloc (.cells #[.string ⟨#[]⟩, .bool false, .bool false] 47)).heap.size = w.heap.size + 1 := by simp
    have hK0 := ((Blk.new_ w 47 #[.string ⟨#[]⟩, .bool false, .bool false]).alloc (.cells #[.string (S nm), .bool true, .bool false] 47))
    have hK1 := (blk_new 47 #[.string (S nm), .bool true, .bool false] hs0)
    have hbel0 := bel_alloc (bel_alloc (Below.refl w.heap.size w) (.cells #[.string ⟨#[]⟩, .bool false, .bool false] 47)) (.cells #[.string (S nm), .bool true, .bool false] 47)
    clear hs0
    cases hnb : nameB nm with
    | true =>
      have hnb' : nameB (S nm).toList = true := by rw [S_toList]; exact hnb
      have hspl := split_pos nm
      have hok := Lib.hid (show ruleOk l = true by rw [hok0.out, hnb]; simp)
      clear hok0 hnb
      refine (labels_yes (S nm) _ hnz hnb').mono ?_
      rintro e w3 ⟨A, c, rfl, hown, hb3⟩
      rw [S_toList] at hown ⊢
      have hK03 := hK0.below hb3
      have hK13 := hK1.below hb3
      have hbel3 := bel_call hbel0 hb3
      clear hK0 hK1 hbel0 hb3 hown
      generalize (splitL nm 46).length = m at *
      have hmi : (0 : Int) < m := by omega
      have d0 := hK03.cell 0
      have d1 := hK03.cell 1
      have d2 := hK03.cell 2
      have df := hK03.free
      have c0 := hK13.cell 0
      have c1 := hK13.cell 1
      have c2 := hK13.cell 2
      have cf := hK13.free
      simp at d0 d1 d2 c0 c1 c2
      go_wp2
      refine bodyPost_ret (results_cell2 (b := w.heap.size) (o := 0) (cs := (ruC ⟨nm, true, false⟩).toList) rfl rfl (blk_range (((hK03.put 0 (.string (S nm))).put 1 (.bool true)).put 2 (.bool false))) Try.rowR (by kernel_rfl)) rfl ?_
      rw [hok.out]
      exact ⟨by rw [Array.toArray_toList]; rfl, ((hbel3.setCell (p := ⟨w.heap.size, 0, none⟩) (Nat.le_refl _) (.string (S nm))).setCell (p := ⟨w.heap.size, 1, none⟩) (Nat.le_refl _) (.bool true)).setCell (p := ⟨w.heap.size, 2, none⟩) (Nat.le_refl _) (.bool false)⟩
    | false =>
      have hnb' : nameB (S nm).toList = false := by rw [S_toList]; exact hnb
      have hok := Lib.hid (show ruleOk l = false by rw [hok0.out, hnb]; rfl)
      clear hok0 hnb
      refine (labels_no (S nm) _ hnz hnb').mono ?_
      rintro e w3 ⟨rfl, hb3⟩
      have hK03 := hK0.below hb3
      have hK13 := hK1.below hb3
      have hbel3 := bel_call hbel0 hb3
      clear hK0 hK1 hbel0 hb3
      have d0 := hK03.cell 0
      have d1 := hK03.cell 1
      have d2 := hK03.cell 2
      have df := hK03.free
      have c0 := hK13.cell 0
      have c1 := hK13.cell 1
      have c2 := hK13.cell 2
      have cf := hK13.free
      simp at d0 d1 d2 c0 c1 c2
      go_wp2
      refine bodyPost_ret (results_cell2 (b := w.heap.size) (o := 0) (cs := (ruC ⟨nm, true, false⟩).toList) rfl rfl (blk_range (((hK03.put 0 (.string (S nm))).put 1 (.bool true)).put 2 (.bool false))) Try.rowR (by kernel_rfl)) rfl ?_
      rw [hok.out]
      exact ⟨by rw [Array.toArray_toList]; rfl, ((hbel3.setCell (p := ⟨w.heap.size, 0, none⟩) (Nat.le_refl _) (.string (S nm))).setCell (p := ⟨w.heap.size, 1, none⟩) (Nat.le_refl _) (.bool true)).setCell (p := ⟨w.heap.size, 2, none⟩) (Nat.le_refl _) (.bool false)⟩
  · rw [hT] at hok0 hnz hrl ⊢
    simp only at hok0 hnz hrl
    have hp1H := Lib.hid hp1
    have hp2H := Lib.hid hp2
    have h2l : 1 ≤ l.length := by
      match l, hp2 with
      | [], h => cases h
      | a :: r, _ => simp
    have h2i : (1 : Int) ≤ l.length := by omega
    have hx : (S l).extract 1 l.length = S (l.drop 1) := by rw [show l.length = (S l).size from (S_size l).symm, extract_from, S_toList]
    clear hp1 hT hp2
    generalize hNM : l.drop 1 = nm at *
    clear hNM
    go_enter Try.func31, Try.ntmps31
    go_wp2_with fail
    refine (hasPrefix_any (S l) _ _ hz hz1).mono ?_
    rintro e w' ⟨rfl, rfl⟩
    rw [S_toList, show (ByteArray.mk #[42, 46]).toList = [42, 46] from S_toList [42, 46], hp1H.out]
    go_wp2_with fail
    refine (hasPrefix_any (S l) _ _ hz hz2).mono ?_
    rintro e w' ⟨rfl, rfl⟩
    rw [S_toList, show (ByteArray.mk #[33]).toList = [33] from S_toList [33], hp2H.out]
    go_wp2_with fail
    have hs0 : (w.alloc (.cells #[.string ⟨#[]⟩, .bool false, .bool false] 47)).heap.size = w.heap.size + 1 := by simp
    have hK0 := ((Blk.new_ w 47 #[.string ⟨#[]⟩, .bool false, .bool false]).alloc (.cells #[.string (S nm), .bool false, .bool true] 47))
    have hK1 := (blk_new 47 #[.string (S nm), .bool false, .bool true] hs0)
    have hbel0 := bel_alloc (bel_alloc (Below.refl w.heap.size w) (.cells #[.string ⟨#[]⟩, .bool false, .bool false] 47)) (.cells #[.string (S nm), .bool false, .bool true] 47)
    clear hs0
    cases hnb : nameB nm with
    | true =>
      have hnb' : nameB (S nm).toList = true := by rw [S_toList]; exact hnb
      have hspl := split_pos nm
      have hok := Lib.hid (show ruleOk l = decide ((1 : Int) < ((splitL nm 46).length : Nat)) by rw [hok0.out, hnb]; simp only [Bool.true_and, Bool.not_true, Bool.false_or]; exact decide_eq_decide.2 (by omega))
      clear hok0 hnb
      refine (labels_yes (S nm) _ hnz hnb').mono ?_
      rintro e w3 ⟨A, c, rfl, hown, hb3⟩
      rw [S_toList] at hown ⊢
      have hK03 := hK0.below hb3
      have hK13 := hK1.below hb3
      have hbel3 := bel_call hbel0 hb3
      clear hK0 hK1 hbel0 hb3 hown
      generalize (splitL nm 46).length = m at *
      have hmi : (0 : Int) < m := by omega
      have d0 := hK03.cell 0
      have d1 := hK03.cell 1
      have d2 := hK03.cell 2
      have df := hK03.free
      have c0 := hK13.cell 0
      have c1 := hK13.cell 1
      have c2 := hK13.cell 2
      have cf := hK13.free
      simp at d0 d1 d2 c0 c1 c2
      go_wp2
      refine bodyPost_ret (results_cell2 (b := w.heap.size) (o := 0) (cs := (ruC ⟨nm, false, true⟩).toList) rfl rfl (blk_range (((hK03.put 0 (.string (S nm))).put 1 (.bool false)).put 2 (.bool true))) Try.rowR (by kernel_rfl)) rfl ?_
      rw [hok.out]
      exact ⟨by rw [Array.toArray_toList]; rfl, ((hbel3.setCell (p := ⟨w.heap.size, 0, none⟩) (Nat.le_refl _) (.string (S nm))).setCell (p := ⟨w.heap.size, 1, none⟩) (Nat.le_refl _) (.bool false)).setCell (p := ⟨w.heap.size, 2, none⟩) (Nat.le_refl _) (.bool true)⟩
    | false =>
      have hnb' : nameB (S nm).toList = false := by rw [S_toList]; exact hnb
      have hok := Lib.hid (show ruleOk l = false by rw [hok0.out, hnb]; rfl)
      clear hok0 hnb
      refine (labels_no (S nm) _ hnz hnb').mono ?_
      rintro e w3 ⟨rfl, hb3⟩
      have hK03 := hK0.below hb3
      have hK13 := hK1.below hb3
      have hbel3 := bel_call hbel0 hb3
      clear hK0 hK1 hbel0 hb3
      have d0 := hK03.cell 0
      have d1 := hK03.cell 1
      have d2 := hK03.cell 2
      have df := hK03.free
      have c0 := hK13.cell 0
      have c1 := hK13.cell 1
      have c2 := hK13.cell 2
      have cf := hK13.free
      simp at d0 d1 d2 c0 c1 c2
      go_wp2
      refine bodyPost_ret (results_cell2 (b := w.heap.size) (o := 0) (cs := (ruC ⟨nm, false, true⟩).toList) rfl rfl (blk_range (((hK03.put 0 (.string (S nm))).put 1 (.bool false)).put 2 (.bool true))) Try.rowR (by kernel_rfl)) rfl ?_
      rw [hok.out]
      exact ⟨by rw [Array.toArray_toList]; rfl, ((hbel3.setCell (p := ⟨w.heap.size, 0, none⟩) (Nat.le_refl _) (.string (S nm))).setCell (p := ⟨w.heap.size, 1, none⟩) (Nat.le_refl _) (.bool false)).setCell (p := ⟨w.heap.size, 2, none⟩) (Nat.le_refl _) (.bool true)⟩
  · rw [hT] at hok0 hnz hrl ⊢
    simp only at hok0 hnz hrl
    have hp1H := Lib.hid hp1
    have hp2H := Lib.hid hp2
    clear hp1 hT hp2
    go_enter Try.func31, Try.ntmps31
    go_wp2_with fail
    refine (hasPrefix_any (S l) _ _ hz hz1).mono ?_
    rintro e w' ⟨rfl, rfl⟩
    rw [S_toList, show (ByteArray.mk #[42, 46]).toList = [42, 46] from S_toList [42, 46], hp1H.out]
    go_wp2_with fail
    refine (hasPrefix_any (S l) _ _ hz hz2).mono ?_
    rintro e w' ⟨rfl, rfl⟩
    rw [S_toList, show (ByteArray.mk #[33]).toList = [33] from S_toList [33], hp2H.out]
    go_wp2_with fail
    have hs0 : (w.alloc (.cells #[.string ⟨#[]⟩, .bool false, .bool false] 47)).heap.size = w.heap.size + 1 := by simp
    have hK0 := ((Blk.new_ w 47 #[.string ⟨#[]⟩, .bool false, .bool false]).alloc (.cells #[.string (S l), .bool false, .bool false] 47))
    have hK1 := (blk_new 47 #[.string (S l), .bool false, .bool false] hs0)
    have hbel0 := bel_alloc (bel_alloc (Below.refl w.heap.size w) (.cells #[.string ⟨#[]⟩, .bool false, .bool false] 47)) (.cells #[.string (S l), .bool false, .bool false] 47)
    clear hs0
    cases hnb : nameB l with
    | true =>
      have hnb' : nameB (S l).toList = true := by rw [S_toList]; exact hnb
      have hspl := split_pos l
      have hok := Lib.hid (show ruleOk l = true by rw [hok0.out, hnb]; simp)
      clear hok0 hnb
      refine (labels_yes (S l) _ hnz hnb').mono ?_
      rintro e w3 ⟨A, c, rfl, hown, hb3⟩
      rw [S_toList] at hown ⊢
      have hK03 := hK0.below hb3
      have hK13 := hK1.below hb3
      have hbel3 := bel_call hbel0 hb3
      clear hK0 hK1 hbel0 hb3 hown
      generalize (splitL l 46).length = m at *
      have hmi : (0 : Int) < m := by omega
      have d0 := hK03.cell 0
      have d1 := hK03.cell 1
      have d2 := hK03.cell 2
      have df := hK03.free
      have c0 := hK13.cell 0
      have c1 := hK13.cell 1
      have c2 := hK13.cell 2
      have cf := hK13.free
      simp at d0 d1 d2 c0 c1 c2
      go_wp2
      refine bodyPost_ret (results_cell2 (b := w.heap.size) (o := 0) (cs := (ruC ⟨l, false, false⟩).toList) rfl rfl (blk_range (((hK03.put 0 (.string (S l))).put 1 (.bool false)).put 2 (.bool false))) Try.rowR (by kernel_rfl)) rfl ?_
      rw [hok.out]
      exact ⟨by rw [Array.toArray_toList]; rfl, ((hbel3.setCell (p := ⟨w.heap.size, 0, none⟩) (Nat.le_refl _) (.string (S l))).setCell (p := ⟨w.heap.size, 1, none⟩) (Nat.le_refl _) (.bool false)).setCell (p := ⟨w.heap.size, 2, none⟩) (Nat.le_refl _) (.bool false)⟩
    | false =>
      have hnb' : nameB (S l).toList = false := by rw [S_toList]; exact hnb
      have hok := Lib.hid (show ruleOk l = false by rw [hok0.out, hnb]; rfl)
      clear hok0 hnb
      refine (labels_no (S l) _ hnz hnb').mono ?_
      rintro e w3 ⟨rfl, hb3⟩
      have hK03 := hK0.below hb3
      have hK13 := hK1.below hb3
      have hbel3 := bel_call hbel0 hb3
      clear hK0 hK1 hbel0 hb3
      have d0 := hK03.cell 0
      have d1 := hK03.cell 1
      have d2 := hK03.cell 2
      have df := hK03.free
      have c0 := hK13.cell 0
      have c1 := hK13.cell 1
      have c2 := hK13.cell 2
      have cf := hK13.free
      simp at d0 d1 d2 c0 c1 c2
      go_wp2
      refine bodyPost_ret (results_cell2 (b := w.heap.size) (o := 0) (cs := (ruC ⟨l, false, false⟩).toList) rfl rfl (blk_range (((hK03.put 0 (.string (S l))).put 1 (.bool false)).put 2 (.bool false))) Try.rowR (by kernel_rfl)) rfl ?_
      rw [hok.out]
      exact ⟨by rw [Array.toArray_toList]; rfl, ((hbel3.setCell (p := ⟨w.heap.size, 0, none⟩) (Nat.le_refl _) (.string (S l))).setCell (p := ⟨w.heap.size, 1, none⟩) (Nat.le_refl _) (.bool false)).setCell (p := ⟨w.heap.size, 2, none⟩) (Nat.le_refl _) (.bool false)⟩
end Go.Proofs.Ytbijphfendaddaa
