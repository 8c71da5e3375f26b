/-
  The walks of package view: items without a key, items with another one.
-/
import Derived.Test.YtgfoaopfdpclhaaIns2
import Derived.Test.YtgfoaopfdpclhaaDiff4
import Derived.Deep.RegionHeld3
import Derived.BigQuiet
namespace Go.Proofs.Ytgfoaopfdpclhaa
open Go.RowKit
set_option linter.unusedVariables false

/-- Items without a key; items with another one. -/
def notK (k : Ky) (x : It) : Bool := !decide (x.k = k)
def woL (l : List It) (k : Ky) : List It := l.filter (notK k)
def atN (l : List It) (k : Ky) : Nat := (l.takeWhile fun y => lessK y.k k).length
def putV (l : List It) (x : It) : List It := (woL l x.k).take (atN (woL l x.k) x.k) ++ x :: (woL l x.k).drop (atN (woL l x.k) x.k)

set_option maxHeartbeats 1000000 in
theorem notK_any (x : It) (k : Ky) (kb : Nat) (w : World) (hk : kyAt w kb 0 = some k) :
    Calls Try.prog 78 #[vI x, .pointer (some ⟨kb, 0, none⟩)] w fun e w' => e = .returned (.bool (notK k x)) ∧ Below w.heap.size w w' := by
  have hlt := ky_lt hk
  go_enter Try.func78, Try.ntmps78
  go_wp2
  go_ret
  exact ⟨rfl, bel_alloc (Below.refl _ _) _⟩

def FuncK (kb : Nat) : Value := .func (.func 78) #[] #[.pointer (some ⟨kb, 0, none⟩)]
def RowPost (l : List It) (w : World) (e : Ending) (w' : World) : Prop := ∃ A c, e = .returned (.slice A l.length c) ∧ w'.ownsRow w.heap.size 27 11 (.slice A l.length c) l.length (l.flatMap cI) ∧ Below w.heap.size w w'
set_option maxHeartbeats 4000000 in
theorem keep_any (A : Option Addr) (n c : Nat) (l : List It) (k : Ky) (kb : Nat) (w : World) (h : Rd w 11 (.slice A n c) n (l.flatMap cI)) (hk : kyAt w kb 0 = some k) (hn : n ≤ 100000) :
    Calls Try.prog 77 #[.slice A n c, FuncK kb] w (RowPost (woL l k) w) := by
  obtain ⟨i0, hi, hz0, hz1, hz2⟩ := info_parts Try.infoI
  have hl := h.rows (sz := 11) (f := cI) (fun q => rfl) (by decide)
  have hcap := h.cap
  unfold maxLen at hcap
  obtain ⟨hca, hcb⟩ := hcap
  subst hl
  unfold FuncK
  go_enter Try.func77, Try.ntmps77
  go_wp2
  go_loopw [5, 10] (fun va i wr => ∃ j : Nat, j ≤ l.length ∧ i = .int .i64 j ∧ wr.ownsRow w.heap.size 27 11 va ((l.take j).filter (notK k)).length (((l.take j).filter (notK k)).flatMap cI) ∧ Below w.heap.size w wr) (fun _ i _ => l.length - (intOf i).toNat)
  case atStart => exact ⟨0, Nat.zero_le _, rfl, World.ownsRow_nil _ _ _ _, Below.refl _ _⟩
  case round =>
    obtain ⟨j, hj, rfl, hoa, hbel⟩ := hrel
    by_cases hlt : j < l.length
    · have hji : (j : Int) < l.length := by omega
      have hj0 : (0 : Int) ≤ (j : Int) := by omega
      have hRr := h.below hbel
      obtain ⟨b, off, rfl, hb, hx⟩ := hRr.items hlt
      have hxi := (hx j hlt).1
      clear hx hb
      have hkr := kyAt_later hk hbel
      have hfa := filter_take (notK k) l j hlt
      have hla := filter_len (notK k) (l.take j)
      rw [List.length_take] at hla
      generalize hla' : (l.take j).filter (notK k) = La at *
      clear hla'
      have hka := kyAt_later hkr (bel_alloc (Below.refl _ wr) (.cells (cI l[j]).toArray 27))
      go_wp2_with fail
      refine (notK_any l[j] k kb _ hka).mono ?_
      rintro e w1 ⟨rfl, hb1⟩
      have hi1 := itAt_later (itAt_new wr l[j] 27 wr.heap.size rfl) hb1
      have hoa1 := own_below (hoa.alloc _) hb1
      have hbel1 := bel_call (bel_alloc hbel (.cells (cI l[j]).toArray 27)) hb1
      have hsz1 := hbel1.size
      clear hoa hbel hb1 hka hkr hxi hRr
      cases hq : notK k l[j]
      · have Hfa := Lib.hid (show (l.take (j + 1)).filter (notK k) = La by rw [hfa, hq]; simp)
        clear hfa
        go_wp2
        go_roundw
        case rel => exact ⟨j + 1, by omega, by go_num, by rw [Hfa.out]; exact hoa1, hbel1⟩
        case measure => simp [intOf]; omega
      · have Hfa := Lib.hid (show (l.take (j + 1)).filter (notK k) = La ++ [l[j]] by rw [hfa, hq]; rfl)
        clear hfa
        go_wp2_with (at_builtin; refine wpList_push_at rfl _ _ 29 rfl w.heap.size 27 i0 (vI (noneI k0)) 11 96 Try.underlying29 hi hz0 hz1 hz2 rfl (by decide) _ _ _ rfl hoa1 _ _ rfl rfl (by simp) (cI_one _) ?c1 ?c2 hbel1.size hbel1 ?_)
        case c1 => unfold maxLen; omega
        case c2 => omega
        intro v' w2 hoa2 hg2 hm2 hbel2 hsz2
        clear hoa1 hbel1 hi1 hg2 hm2
        go_wp2
        go_roundw
        case rel => exact ⟨j + 1, by omega, by go_num, by rw [Hfa.out, List.length_append, flat_snoc]; exact hoa2, hbel2⟩
        case measure => simp [intOf]; omega
    · obtain rfl : j = l.length := by omega
      rw [List.take_length] at hoa
      go_wp2
      go_ret
      obtain ⟨A3, c3, rfl⟩ := own_form hoa
      exact ⟨A3, c3, rfl, hoa, hbel⟩

set_option maxHeartbeats 4000000 in
theorem vWithout_any (A : Option Addr) (n c : Nat) (l : List It) (k : Ky) (w : World) (h : Rd w 11 (.slice A n c) n (l.flatMap cI)) (hn : n ≤ 100000) :
    Calls Try.prog 60 #[.slice A n c, vK k] w (RowPost (woL l k) w) := by
  have hmf : ∀ (fn : Fn) (first cap : Array Value) (w : World), (Instr.makeFunc fn first cap).run Try.prog w = .ok (.func fn first cap) w := fun _ _ _ _ => rfl
  have hR := h.alloc (.cells (cK k).toArray 23)
  go_enter Try.func60, Try.ntmps60
  go_wp2_with fail
  refine (keep_any A n c l k w.heap.size _ hR (kyAt_new w k _ _ rfl) hn).mono ?_
  rintro e w1 ⟨A1, c1, rfl, hown, hb⟩
  go_wp2
  go_ret
  exact ⟨A1, c1, rfl, own_low hown (by simp), bel_call (bel_alloc (Below.refl _ _) _) hb⟩

theorem atN_le (l : List It) (k : Ky) : atN l k ≤ l.length := by unfold atN; exact (List.takeWhile_sublist _).length_le
theorem atN_step {l : List It} {k : Ky} {j : Nat} (hj : j < l.length) (h : ∀ i, i < j → lessK (l.getD i (noneI k0)).k k = true) (hq : lessK l[j].k k = false) : atN l k = j := by
  unfold atN
  induction l generalizing j with
  | nil => simp at hj
  | cons a r ih =>
    cases j with
    | zero => simp at hq; simp [hq]
    | succ j =>
      have h0 := h 0 (by omega)
      simp at h0
      rw [List.takeWhile_cons, if_pos h0, List.length_cons, ih (by simpa using hj) (fun i hi => by simpa using h (i + 1) (by omega)) (by simpa using hq)]
theorem atN_all {l : List It} {k : Ky} (h : ∀ i, i < l.length → lessK (l.getD i (noneI k0)).k k = true) : atN l k = l.length := by
  unfold atN
  induction l with
  | nil => rfl
  | cons a r ih =>
    have h0 := h 0 (by simp)
    simp at h0
    rw [List.takeWhile_cons, if_pos h0, List.length_cons, ih (fun i hi => by simpa using h (i + 1) (by simpa using hi)), List.length_cons]

set_option maxHeartbeats 4000000 in
theorem vPut_any (A : Option Addr) (n c : Nat) (l : List It) (x : It) (w : World) (h : Rd w 11 (.slice A n c) n (l.flatMap cI)) (hn : n ≤ 99999) :
    Calls Try.prog 39 #[.slice A n c, vI x] w (RowPost (putV l x) w) := by
  have hR := h.alloc (.cells (cI x).toArray 27)
  have hl := h.rows (sz := 11) (f := cI) (fun q => rfl) (by decide)
  have hx0 := itAt_new w x 27 w.heap.size rfl
  have hB0 := bel_alloc (Below.refl w.heap.size w) (.cells (cI x).toArray 27)
  have hwl : (woL l x.k).length ≤ l.length := filter_len _ _
  have hP := Lib.hid (show putV l x = (woL l x.k).take (atN (woL l x.k) x.k) ++ x :: (woL l x.k).drop (atN (woL l x.k) x.k) from rfl)
  go_enter Try.func39, Try.ntmps39
  go_wp2_with fail
  refine (vWithout_any A n c l x.k _ hR (by omega)).mono ?_
  rintro e w1 ⟨A1, c1, rfl, hown, hb1⟩
  have hx1 := itAt_later hx0 hb1
  have hB1 := bel_call hB0 hb1
  have hown' := own_low hown (B' := w.heap.size) (by simp)
  have hcap := (Rd.of_own hown).cap
  unfold maxLen at hcap
  obtain ⟨hca, hcb⟩ := hcap
  clear hx0 hB0 hown hb1 hR h
  generalize woL l x.k = m at *
  have hRm := Rd.of_own hown'
  go_wp2
  go_loopw [6] (fun i wr => ∃ j : Nat, j ≤ m.length ∧ i = .int .i64 j ∧ Below w1.heap.size w1 wr ∧ Hid (∀ i, i < j → lessK (m.getD i (noneI k0)).k x.k = true)) (fun i _ => m.length - (intOf i).toNat)
  case atStart => exact ⟨0, Nat.zero_le _, rfl, Below.refl _ _, fun i hi => absurd hi (by omega)⟩
  case round =>
    obtain ⟨j, hj, rfl, hbel, hall⟩ := hrel
    have hownr := own_below hown' hbel
    have hxr := itAt_later hx1 hbel
    have hkx := kyAt_it hxr
    by_cases hlt : j < m.length
    · have hji : (j : Int) < m.length := by omega
      have hj0 : (0 : Int) ≤ (j : Int) := by omega
      obtain ⟨b, off, rfl, hb, hx⟩ := (hRm.below hbel).items hlt
      have hki := (hx j hlt).2
      clear hx hb
      cases hq : lessK m[j].k x.k
      · have hT := atN_step hlt hall.out hq
        have hP2 := Lib.hid (show putV l x = m.take j ++ x :: m.drop j by rw [hP.out, hT])
        have hqH := Lib.hid hq
        clear hq hT
        go_wp2
        go_region_held3 (fun w' => kyAt w' b (off + j * 11) = some m[j].k ∧ kyAt w' w.heap.size 0 = some x.k) (first | exact ⟨ky_drew hki, ky_drew hkx⟩ | exact ⟨kyAt_later (ky_drew hki) hb0, kyAt_later (ky_drew hkx) hb0⟩) (first | (go_at_call 61; refine (less_any _ _ _).mono ?_; rintro e w2 ⟨rfl, hb0⟩; rw [hqH.out]))
        have hbel2 := bel_drew hbel hb0
        have hown1 := own_below hownr.drew hb0
        have hx2 := itAt_later (it_drew hxr) hb0
        clear hki hkx hownr hxr hb0 hbel
        generalize hA : some (⟨b, off, none⟩ : Addr) = A1 at *
        clear hA
        have hsp : (Value.slice A1 m.length c1).ownBlock ≠ some w2.heap.size := fun e => by
          have h1 := hown1.lt _ e
          omega
        have hown2 := hown1.alloc (.cells (cI x).toArray 27)
        have hv2 := Blk.new_ w2 27 (cI x).toArray
        have hB2 := bel_alloc (bel_call hB1 hbel2) (.cells (cI x).toArray 27)
        have hBz := (bel_call hB1 hbel2).size
        go_wp2_with fail
        refine (insert_any w.heap.size _ m.length j _ m x _ hown2 hv2 hsp (by simp; omega) hj (by omega)).mono ?_
        rintro e w9 ⟨A9, c9, rfl, hown9, hb9⟩
        have hB9 := hB2.trans hb9
        clear hown2 hv2 hB2 hb9
        go_wp2
        go_ret
        have e9 : (m.take j ++ x :: m.drop j).length = m.length + 1 := by simp; omega
        rw [hP2.out]
        refine ⟨A9, c9, by rw [e9]; rfl, by rw [e9]; exact hown9, hB9⟩
      · have hall2 := Lib.hid (show ∀ i, i < j + 1 → lessK (m.getD i (noneI k0)).k x.k = true from fun i hi => by
          by_cases e : i = j
          · subst e; rw [List.getD_eq_getElem?_getD, List.getElem?_eq_getElem hlt]; exact hq
          · exact hall.out i (by omega))
        have hqH := Lib.hid hq
        clear hq hall
        go_wp2
        go_region_held3 (fun w' => kyAt w' b (off + j * 11) = some m[j].k ∧ kyAt w' w.heap.size 0 = some x.k) (first | exact ⟨ky_drew hki, ky_drew hkx⟩ | exact ⟨kyAt_later (ky_drew hki) hb0, kyAt_later (ky_drew hkx) hb0⟩) (first | (go_at_call 61; refine (less_any _ _ _).mono ?_; rintro e w2 ⟨rfl, hb0⟩; rw [hqH.out]))
        have hbel2 := bel_drew hbel hb0
        clear hki hkx hownr hxr hb0 hbel
        go_wp2
        go_roundw
        case rel => exact ⟨j + 1, by omega, by go_num, hbel2, hall2⟩
        case measure => simp [intOf]; omega
    · obtain rfl : j = m.length := by omega
      have hT := atN_all hall.out
      have hP2 := Lib.hid (show putV l x = m.take m.length ++ x :: m.drop m.length by rw [hP.out, hT])
      have hlf : decide ((m.length : Int) < m.length) = false := decide_eq_false (by omega)
      clear hT hkx
      go_wp2
      go_quiet (fail)
      have hbel2 := below_drews hbel nq
      have hown1 : (wr.drewN nq).ownsRow w.heap.size 27 11 (.slice A1 m.length c1) m.length (m.flatMap cI) := own_below hownr (below_drews (Below.refl _ _) nq)
      have hx2 := itAt_later hxr (below_drews (Below.refl _ wr) nq)
      clear hbel hownr hxr
      generalize wr.drewN nq = w2 at *
      have hsp : (Value.slice A1 m.length c1).ownBlock ≠ some w2.heap.size := fun e => by
        have h1 := hown1.lt _ e
        omega
      have hown2 := hown1.alloc (.cells (cI x).toArray 27)
      have hv2 := Blk.new_ w2 27 (cI x).toArray
      have hB2 := bel_alloc (bel_call hB1 hbel2) (.cells (cI x).toArray 27)
      have hBz := (bel_call hB1 hbel2).size
      go_wp2_with fail
      refine (insert_any w.heap.size _ m.length m.length _ m x _ hown2 hv2 hsp (by simp; omega) hj (by omega)).mono ?_
      rintro e w9 ⟨A9, c9, rfl, hown9, hb9⟩
      have hB9 := hB2.trans hb9
      clear hown2 hv2 hB2 hb9
      go_wp2
      go_ret
      have e9 : (m.take m.length ++ x :: m.drop m.length).length = m.length + 1 := by simp
      rw [hP2.out]
      refine ⟨A9, c9, by rw [e9]; rfl, by rw [e9]; exact hown9, hB9⟩
end Go.Proofs.Ytgfoaopfdpclhaa
