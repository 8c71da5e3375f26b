/-
  The walk: those of any items that go with a request.
-/
import Derived.Test.YtdefpphfbpkeaaaFits
import Derived.Test.YtdefpphfbpkeaaaSort7
namespace Go.Proofs.Ytdefpphfbpkeaaa
open Go.RowKit
set_option linter.unusedVariables false

def lRq (r : Rq) : List Value := [.string (S r.h), .string (S r.p), .bool r.s, .bool r.c]
theorem lRq_inj {a b : Rq} (h : lRq a = lRq b) : a = b := by
  obtain ⟨a1, a2, a3, a4⟩ := a
  obtain ⟨b1, b2, b3, b4⟩ := b
  simp only [lRq, List.cons.injEq, and_true, Value.bool.injEq] at h
  obtain ⟨h1, h2, h3, h4⟩ := h
  have e1 : a1 = b1 := strV_inj h1
  have e2 : a2 = b2 := strV_inj h2
  rw [e1, e2, h3, h4]
noncomputable def rqAt (w : World) (b o : Nat) : Option Rq := rdAt lRq w b o
theorem rqAt_of {w : World} {b o : Nat} {k : Rq} (h : w.rangeAt b o (lRq k)) : rqAt w b o = some k := rdAt_of (fun _ _ => lRq_inj) (fun _ _ => rfl) h
theorem rqAt_blk {w : World} {b : Nat} {r : Rq} (h : Blk w b 61 (rqC r)) : rqAt w b 0 = some r := rqAt_of (range_blk (l := lRq r) h)
@[go_sem] theorem rqAt_drew (w : World) (b o : Nat) : rqAt w.drew b o = rqAt w b o := rdAt_drew _ _ _ _
@[go_sem] theorem rqAt_alloc (w : World) (ob : Obj) (b o : Nat) (h : b < w.heap.size) : rqAt (w.alloc ob) b o = rqAt w b o := rdAt_alloc _ _ _ _ _ h
@[go_sem] theorem rqAt_new (w : World) (r : Rq) (t g : Nat) (hg : w.heap.size = g) : rqAt (w.alloc (.cells (rqC r) t)) g 0 = some r := by
  subst hg; exact rqAt_of (range_blk (l := lRq r) (heap_alloc_new w _))
theorem rq_lt {w : World} {b o : Nat} {x : Rq} (h : rqAt w b o = some x) : b < w.heap.size := World.block_lt_of_cell? w _ ((rdAt_range (f := lRq) h) 0 _ rfl)
theorem rqAt_later {w w1 : World} {b o : Nat} {k : Rq} (h : rqAt w b o = some k) (hb : Below w.heap.size w w1) : rqAt w1 b o = some k := rdAt_kept hb (rq_lt h) h
section
variable (w : World)
def loadRq (a : Addr) : Sem Value := loadVar 61 a
def stuckRq (a : Addr) : Sem Value := loadVar 61 a
@[go_sem ↓] theorem to_loadRq (a : Addr) : loadVar 61 a = loadRq a := rfl
@[go_sem] theorem run_loadRq (b o : Nat) : (loadRq ⟨b, o, none⟩).run Try.prog w = match rqAt w b o with
    | some k => .ok (rqV k) w
    | none => (stuckRq ⟨b, o, none⟩).run Try.prog w := by
  cases h : rqAt w b o with
  | none => rfl
  | some k =>
    have hu : ∃ d, Try.prog.underlying 61 = some d ∧ d.isRow = true := ⟨.struct (Try.prog.fieldsOf 61), by kernel_rfl, rfl⟩
    obtain ⟨d, hd, hr⟩ := hu
    exact run_loadVar_mid w b o 61 (lRq k) d (rdAt_range h) hd hr (by kernel_rfl)
end
def Sml (l : List It) : Prop := ∀ x ∈ l, x.k.d.length ≤ 4294967296 ∧ x.k.p.length ≤ 4294967296
def pickL (l : List It) (r : Rq) (now : Int) : List It := l.filter fun x => fitsR x r now
set_option maxHeartbeats 2000000 in
theorem pick_any (A : Option Addr) (n c : Nat) (l : List It) (r : Rq) (now : Int) (w : World) (h : Rd w 11 (.slice A n c) n (l.flatMap cI)) (hn : n ≤ 100000) (hs : Sml l) (h1 : r.h.length ≤ 4294967296) (h3 : r.p.length ≤ 4294967296) :
    Calls Try.prog 36 #[.slice A n c, rqV r, .int .i64 now] w (SortPost (pickL l r now) w) := by
  obtain ⟨i0, hi, hz0, hz1, hz2⟩ := info_parts Try.infoI
  have hl := h.rows (sz := 11) (f := cI) (fun q => rfl) (by decide)
  have hcap := h.cap
  unfold maxLen at hcap
  obtain ⟨hca, hcb⟩ := hcap
  subst hl
  go_enter Try.func36, Try.ntmps36
  go_wp2
  obtain ⟨W1, hW1⟩ : ∃ W1, W1 = w.alloc (Obj.cells (rqC r) 61) := ⟨_, rfl⟩
  have hk1 : rqAt W1 w.heap.size 0 = some r := by rw [hW1]; exact rqAt_new w r _ _ rfl
  have hB1 : Below w.heap.size w W1 := by rw [hW1]; exact bel_alloc (Below.refl _ _) _
  have hz : W1.heap.size = w.heap.size + 1 := by rw [hW1]; simp
  rw [← hW1]
  have hR1 := h.below hB1
  clear hW1 h
  replace hz := Lib.hid hz
  go_loopw [7, 12] (fun va i wr => ∃ (j : Nat) (L : List It), j ≤ l.length ∧ i = .int .i64 j ∧ Hid ((l.take j).filter (fun x => fitsR x r now) = L) ∧ wr.ownsRow W1.heap.size 51 11 va L.length (L.flatMap cI) ∧ Below W1.heap.size W1 wr) (fun _ i _ => l.length - (intOf i).toNat)
  case atStart => exact ⟨0, [], Nat.zero_le _, rfl, rfl, World.ownsRow_nil _ _ _ _, Below.refl _ _⟩
  case round =>
    obtain ⟨j, L, hj, rfl, hL, hoa, hbel⟩ := hrel
    have hLl : L.length ≤ j := by
      rw [← hL.out]
      exact Nat.le_trans (List.length_filter_le _ _) (by rw [List.length_take]; omega)
    by_cases hlt : j < l.length
    · have hji : (j : Int) < l.length := by omega
      have hj0 : (0 : Int) ≤ (j : Int) := by omega
      have hkr := rqAt_later hk1 hbel
      obtain ⟨b, off, rfl, hb, hx⟩ := (hR1.below hbel).items hlt
      have hxi := (hx j hlt).1
      obtain ⟨hs1, hs2⟩ := hs _ (List.getElem_mem hlt)
      clear hx hb
      have hka := rqAt_later hkr (bel_alloc (Below.refl _ wr) (.cells (cI l[j]).toArray 51))
      have hfa := filter_take (fun x => fitsR x r now) l j hlt
      rw [hL.out] at hfa
      replace hfa := Lib.hid hfa
      go_wp2_with fail
      refine (fits_any' l[j] r now _ h1 hs1 h3 hs2).mono ?_
      rintro e w1 ⟨rfl, hb1⟩
      have hi1 := itAt_later (itAt_new wr l[j] 51 wr.heap.size rfl) hb1
      have hoa1 := own_below (hoa.alloc _) hb1
      have hbel1 := bel_call (bel_alloc hbel (.cells (cI l[j]).toArray 51)) hb1
      have hsz1 := hbel1.size
      clear hoa hbel hb1 hka hkr hxi
      cases hq : fitsR l[j] r now
      · have Hfa := Lib.hid (show (l.take (j + 1)).filter (fun x => fitsR x r now) = L by rw [hfa.out, hq]; simp)
        clear hfa hq
        go_wp2
        go_roundw
        case rel => exact ⟨j + 1, L, by omega, by go_num, Hfa.out, hoa1, hbel1⟩
        case measure => simp [intOf]; omega
      · have Hfa := Lib.hid (show (l.take (j + 1)).filter (fun x => fitsR x r now) = L ++ [l[j]] by rw [hfa.out, hq]; rfl)
        clear hfa hq
        go_wp2_with (at_builtin; refine wpList_push_at rfl _ _ 22 rfl W1.heap.size 51 i0 (vI (noneI k0)) 11 96 Try.underlying22 hi hz0 hz1 hz2 rfl (by decide) _ _ _ rfl hoa1 _ _ rfl rfl (by simp) (cI_one _) ?c1 ?c2 hbel1.size hbel1 ?_)
        case c1 => unfold maxLen; omega
        case c2 => omega
        intro v' w2 hoa2 hg2 hm2 hbel2 hsz2
        clear hoa1 hbel1 hi1 hg2 hm2
        go_wp2
        go_roundw
        case rel => exact ⟨j + 1, L ++ [l[j]], by omega, by go_num, Hfa.out, by rw [List.length_append, flat_snoc]; exact hoa2, hbel2⟩
        case measure => simp [intOf]; omega
    · obtain rfl : j = l.length := by omega
      have hL2 : Hid (pickL l r now = L) := by show _ = _; have := hL.out; rwa [List.take_length] at this
      clear hL
      obtain ⟨A3, c3, rfl⟩ := own_form hoa
      have hlimL : Lim L := by
        intro x hx
        rw [← hL2.out] at hx
        have := (hs x (List.mem_filter.1 hx).1).2
        omega
      go_wp2_with fail
      refine (mSort_any _ _ _ L _ (Rd.of_own hoa) (by omega) hlimL).mono ?_
      rintro e w2 ⟨A4, c4, R, rfl, g1, g2, g3, g4, g5⟩
      replace g4 := Lib.hid g4
      have hB9 := bel_call hB1 (bel_call hbel g5)
      clear hoa hbel g5
      go_wp2
      go_ret
      unfold SortPost
      rw [hL2.out]
      exact ⟨A4, c4, R, rfl, g1, g2, g3, g4.out, hB9⟩
end Go.Proofs.Ytdefpphfbpkeaaa
