/-
  The walk: the reader of a line, the program's.
-/
import Derived.Test.YtgfoaopfdpclhaaExp3
namespace Go.Proofs.Ytgfoaopfdpclhaa
open Go.RowKit
set_option linter.unusedVariables false

theorem rb_put {w : World} {g : Nat} {t : TypeId} {cs : Array Value} (h : Blk w g t cs) (i : Nat) (v : Value) : Blk (w.setCell ⟨g, i, none⟩ v) g t (cs.setIfInBounds i v) := heap_setCell_same w g i cs t v h
theorem rb_bel {w w' : World} (h : Below w.heap.size w w') (g : Nat) : w.grownBy w' (some g) := ⟨h.os, h.tape, h.output, h.size, fun k hk _ => h.block k hk⟩
theorem rb_set {w w' : World} {g : Nat} (h : w.grownBy w' (some g)) (i : Nat) (v : Value) : w.grownBy (w'.setCell ⟨g, i, none⟩ v) (some g) :=
  ⟨h.os, h.tape, h.output, by simpa using h.size, fun k hk hne => by
    rw [Below.heap_setCell _ _ _ _ (fun e => hne (by rw [e]))]
    exact h.block k hk hne⟩
/-- The reader's cells. -/
def rC (x : It) (ok : Bool) : Array Value := #[.string (S x.k.n), .string (S x.k.d), .string (S x.k.p), .string (S x.c.v), .bool x.c.ho, .bool x.c.se, .bool x.c.ht, .bool x.c.pe, .int .i64 x.c.ex, .int .i64 x.c.cr, .int .i64 x.c.ac, .bool ok]
theorem rc_cells {w : World} {g : Nat} {t : TypeId} {x : It} {ok : Bool} (h : Blk w g t (rC x ok)) :
    w.cell? ⟨g, 0, none⟩ = some (.string (S x.k.n)) ∧ w.cell? ⟨g, 1, none⟩ = some (.string (S x.k.d)) ∧ w.cell? ⟨g, 2, none⟩ = some (.string (S x.k.p)) ∧ w.cell? ⟨g, 3, none⟩ = some (.string (S x.c.v)) ∧ w.cell? ⟨g, 4, none⟩ = some (.bool x.c.ho) ∧ w.cell? ⟨g, 5, none⟩ = some (.bool x.c.se) ∧
    w.cell? ⟨g, 6, none⟩ = some (.bool x.c.ht) ∧ w.cell? ⟨g, 7, none⟩ = some (.bool x.c.pe) ∧ w.cell? ⟨g, 8, none⟩ = some (.int .i64 x.c.ex) ∧ w.cell? ⟨g, 9, none⟩ = some (.int .i64 x.c.cr) ∧ w.cell? ⟨g, 10, none⟩ = some (.int .i64 x.c.ac) ∧ w.cell? ⟨g, 11, none⟩ = some (.bool ok) ∧ (∀ i, w.frozen? ⟨g, i, none⟩ = false) :=
  ⟨h.cell 0, h.cell 1, h.cell 2, h.cell 3, h.cell 4, h.cell 5, h.cell 6, h.cell 7, h.cell 8, h.cell 9, h.cell 10, h.cell 11, h.free⟩
def RPost (v : Value) (g : Nat) (x : It) (ok : Bool) (w : World) (e : Ending) (w' : World) : Prop := e = .returned v ∧ Blk w' g 59 (rC x ok) ∧ w.grownBy w' (some g)
def wordB (s : List UInt8) : Bool := s == truthL true || s == truthL false
set_option maxHeartbeats 2000000 in
theorem rTruth_any (x : It) (ok : Bool) (g : Nat) (s : List UInt8) (w : World) (hK : Blk w g 59 (rC x ok)) :
    Calls Try.prog 31 #[.pointer (some ⟨g, 0, none⟩), .string (S s)] w (RPost (.bool (s == truthL true)) g x (ok && wordB s) w) := by
  have hK' := hK
  obtain ⟨c0, c1, c2, c3, c4, c5, c6, c7, c8, c9, c10, c11, cf⟩ := rc_cells hK
  have hgl := hK.lt
  have hb0 := Below.refl w.heap.size w
  have hK0 := Lib.hid hK
  clear hK hK' c0 c1 c2 c3 c4 c5 c6 c7 c8 c9 c10
  by_cases h1 : s = truthL true
  · subst h1
    cases ok
    all_goals
      go_enter Try.func31, Try.ntmps31
      go_wp2
      go_ret
      exact ⟨rfl, rb_put hK0.out 11 _, rb_set (rb_bel hb0 g) 11 _⟩
  · by_cases h2 : s = truthL false
    · subst h2
      cases ok
      all_goals
        go_enter Try.func31, Try.ntmps31
        go_wp2
        go_ret
        exact ⟨rfl, rb_put hK0.out 11 _, rb_set (rb_bel hb0 g) 11 _⟩
    · have e1 : (s == [84, 82, 85, 69]) = false := by rw [beq_eq_false_iff_ne]; exact h1
      have e2 : (s == [70, 65, 76, 83, 69]) = false := by rw [beq_eq_false_iff_ne]; exact h2
      have hw : wordB s = false := by unfold wordB; simp [h1, h2]
      have hs1 : (s == truthL true) = false := by simpa using h1
      rw [hw, hs1]
      clear hw hs1 h1 h2
      cases ok
      all_goals
        go_enter Try.func31, Try.ntmps31
        go_wp2
        go_ret
        exact ⟨by first | rfl | (rw [e1]; rfl) | (simp [e1]), rb_put hK0.out 11 (.bool false), rb_set (rb_bel hb0 g) 11 _⟩
theorem cut_S (s : List UInt8) (t : ByteArray) (l : List UInt8) (ht : t.data.toList = l) : (⟨(Lib.trimPrefix (S s).data.toList t.data.toList).toArray⟩ : ByteArray) = S (if Lib.hasPrefix s l then s.drop l.length else s) := by
  rw [show (S s).data.toList = s from rfl, ht]
  rfl
set_option maxHeartbeats 2000000 in
theorem rDomain_any (x : It) (ok : Bool) (g : Nat) (s : List UInt8) (w : World) (hK : Blk w g 59 (rC x ok)) :
    Calls Try.prog 32 #[.pointer (some ⟨g, 0, none⟩), .string (S s)] w (RPost (.tuple #[]) g ⟨{ x.k with d := domX s }, { x.c with ht := htX s, ho := !wideX s }⟩ ok w) := by
  obtain ⟨c0, c1, c2, c3, c4, c5, c6, c7, c8, c9, c10, c11, cf⟩ := rc_cells hK
  have hgl := hK.lt
  have hb0 := Below.refl w.heap.size w
  have hK0 := Lib.hid hK
  clear hK
  go_enter Try.func32, Try.ntmps32
  go_wp2_with fail
  refine (Try.strings_CutPrefix (S s) _ w).mono ?_
  rintro e w1 ⟨rfl, rfl⟩
  rw [cut_S s _ hidT rfl, show (S s).data.toList = s from rfl, show Lib.hasPrefix s _ = htX s from rfl, show (if htX s = true then s.drop hidT.length else s) = dX s from rfl]
  go_wp2_with fail
  refine (Try.strings_CutPrefix (S (dX s)) _ _).mono ?_
  rintro e w2 ⟨rfl, rfl⟩
  rw [cut_S (dX s) _ [46] rfl, show (S (dX s)).data.toList = dX s from rfl, show Lib.hasPrefix (dX s) _ = wideX s from rfl, show (if wideX s = true then (dX s).drop ([46] : List UInt8).length else dX s) = domX s from rfl]
  generalize wideX s = W at *
  generalize domX s = D at *
  go_wp2
  first | refine bodyPost_ret (results_none rfl _ _ _) rfl ?_ | refine bodyPost_end (results_none rfl _ _ _) rfl ?_
  exact ⟨rfl, rb_put (rb_put (rb_put hK0.out 6 (.bool (htX s))) 4 (.bool (!W))) 1 (.string (S D)), rb_set (rb_set (rb_set (rb_bel hb0 g) 6 _) 4 _) 1 _⟩
def pOk (ok : Bool) (s : List UInt8) : Bool := if s == [45] then ok else ok && (numOk s && (textL (numV s) == s))
set_option maxHeartbeats 2000000 in
theorem rExpiry_any (x : It) (ok : Bool) (g : Nat) (s : List UInt8) (w : World) (hs : s.length ≤ 4294967296) (hp : x.c.pe = false) (hK : Blk w g 59 (rC x ok)) :
    Calls Try.prog 33 #[.pointer (some ⟨g, 0, none⟩), .string (S s)] w (RPost (.tuple #[]) g ⟨x.k, { x.c with pe := !(s == [45]), ex := if s == [45] then 1099511627776 else numV s }⟩ (pOk ok s) w) := by
  have hm : (S s).size ≤ maxLen := by unfold maxLen; simp; omega
  obtain ⟨c0, c1, c2, c3, c4, c5, c6, c7, c8, c9, c10, c11, cf⟩ := rc_cells hK
  have hgl := hK.lt
  have hb0 := Below.refl w.heap.size w
  have hK0 := Lib.hid hK
  clear hK
  cases h1 : s == [45] with
  | true =>
    have hT := Lib.hid (show pOk ok s = ok by unfold pOk; rw [h1]; rfl)
    go_enter Try.func33, Try.ntmps33
    go_wp2
    first | refine bodyPost_ret (results_none rfl _ _ _) rfl ?_ | refine bodyPost_end (results_none rfl _ _ _) rfl ?_
    have hB1 := rb_put hK0.out 8 (.int .i64 1099511627776)
    refine ⟨rfl, ?_, rb_set (rb_bel hb0 g) 8 _⟩
    rw [hT.out]
    have e : rC ⟨x.k, { x.c with pe := !true, ex := 1099511627776 }⟩ ok = (rC x ok).setIfInBounds 8 (.int .i64 1099511627776) := by
      unfold rC; rw [hp]; rfl
    exact e ▸ hB1
  | false =>
    obtain ⟨hl1, hl2⟩ := numV_bd s
    obtain ⟨n, hn⟩ : ∃ n, n = numV s := ⟨_, rfl⟩
    obtain ⟨q, hq⟩ : ∃ q, q = numOk s := ⟨_, rfl⟩
    rw [← hn] at hl1 hl2
    have hT := Lib.hid (show pOk ok s = (ok && (q && (textL n == s))) by unfold pOk; rw [h1, hn, hq]; rfl)
    have hB1 := rb_put (rb_put hK0.out 8 (.int .i64 1099511627776)) 8 (.int .i64 n)
    have hB2 := Lib.hid (rb_put hB1 7 (.bool true))
    clear hB1
    have hN := Lib.hid hn
    have hQ := Lib.hid hq
    clear hn hq
    have hG := Lib.hid (rb_set (rb_set (rb_set (rb_bel hb0 g) 8 (.int .i64 1099511627776)) 8 (.int .i64 n)) 7 (.bool true))
    have eC : Hid ((((rC x ok).setIfInBounds 8 (.int .i64 1099511627776)).setIfInBounds 8 (.int .i64 n)).setIfInBounds 7 (.bool true) = rC ⟨x.k, { x.c with pe := true, ex := n }⟩ ok) := rfl
    have hB3 : Hid (Blk (((w.setCell ⟨g, 8, none⟩ (.int .i64 1099511627776)).setCell ⟨g, 8, none⟩ (.int .i64 n)).setCell ⟨g, 7, none⟩ (.bool true)) g 59 (rC ⟨x.k, { x.c with pe := true, ex := n }⟩ ok)) := hB2.out
    clear hB2 eC
    go_enter Try.func33, Try.ntmps33
    go_wp2_with fail
    refine (number_any (S s) _ hm).mono ?_
    rintro e w1 ⟨rfl, rfl⟩
    rw [S_toList, ← hN.out, ← hQ.out]
    go_upto_region 5 with (fail)
    show Code.wp _ _ _ _ (((w.setCell ⟨g, 8, none⟩ (.int .i64 1099511627776)).setCell ⟨g, 8, none⟩ (.int .i64 n)).setCell ⟨g, 7, none⟩ (.bool true))
    generalize ((w.setCell ⟨g, 8, none⟩ (.int .i64 1099511627776)).setCell ⟨g, 8, none⟩ (.int .i64 n)).setCell ⟨g, 7, none⟩ (.bool true) = W at *
    clear c0 c1 c2 c3 c4 c5 c6 c7 c8 c9 c10 c11 cf hK0
    have hB4 := hB3.out
    obtain ⟨c0, c1, c2, c3, c4, c5, c6, c7, c8, c9, c10, c11, cf⟩ := rc_cells hB4
    have hgl2 := hB4.lt
    clear hB4
    rw [← hN.out]
    cases ok
    · go_wp2
      first | refine bodyPost_ret (results_none rfl _ _ _) rfl ?_ | refine bodyPost_end (results_none rfl _ _ _) rfl ?_
      exact ⟨rfl, by rw [hT.out]; exact rb_put hB3.out 11 (.bool false), rb_set hG.out 11 _⟩
    · cases q
      · go_wp2
        first | refine bodyPost_ret (results_none rfl _ _ _) rfl ?_ | refine bodyPost_end (results_none rfl _ _ _) rfl ?_
        exact ⟨rfl, by rw [hT.out]; exact rb_put hB3.out 11 (.bool false), rb_set hG.out 11 _⟩
      · go_wp2_with fail
        refine (text_any n _ (by omega) (by omega)).mono ?_
        rintro e w3 ⟨rfl, hb3⟩
        have hB5 := hB3.out.below hb3
        have hG5 : w.grownBy w3 (some g) := ⟨hb3.os.trans hG.out.os, hb3.tape.trans hG.out.tape, hb3.output.trans hG.out.output, Nat.le_trans hG.out.size hb3.size, fun k hk hne => (hb3.block k (Nat.lt_of_lt_of_le hk hG.out.size)).trans (hG.out.block k hk hne)⟩
        clear c0 c1 c2 c3 c4 c5 c6 c7 c8 c9 c10 c11 cf
        obtain ⟨c0, c1, c2, c3, c4, c5, c6, c7, c8, c9, c10, c11, cf⟩ := rc_cells hB5
        have hgl3 := hB5.lt
        replace hB5 := Lib.hid hB5
        replace hG5 := Lib.hid hG5
        clear hB3 hG
        go_wp2
        first | refine bodyPost_ret (results_none rfl _ _ _) rfl ?_ | refine bodyPost_end (results_none rfl _ _ _) rfl ?_
        exact ⟨rfl, by rw [hT.out]; exact rb_put hB5.out 11 (.bool (textL n == s)), rb_set hG5.out 11 _⟩
end Go.Proofs.Ytgfoaopfdpclhaa
