/-
  Joined texts: Lex Uri6.
-/
import Derived.Test.YtgfoaopfdpclhaaGreatDoorBu1
import Derived.Deep.QuietTactic
import Derived.BigQuiet
import Derived.Test.YtgfoaopfdpclhaaGreatDoorBu28
import Derived.Laws.StructEq
import Derived.Deep.RegionHeld3
namespace Go.Proofs.YtgfoaopfdpclhaaGreatDoor
open Go.RowKit
set_option linter.unusedVariables false
set_option maxRecDepth 100000

/-- The worlds of a class. -/
def Cls (C : World → Prop) : Type := {x : World // C x}
def Cls.w {C : World → Prop} (s : Cls C) : World := s.1
theorem Cls.ok {C : World → Prop} (s : Cls C) : C s.w := s.2
def Cls.mk {C : World → Prop} {w : World} (h : C w) : Cls C := ⟨w, h⟩
section
variable {P : Program}
theorem wp_region_class {id : Nat} {R : Exit → Act → World → Prop} {a : Act} {w : World} {l : List Oper} (C : World → Prop) (hm : P.follows .mixedOrders = true) (hB : Region.lexB .any l.toArray = true) (hC : C w.drew)
    (h : Nonempty (Cls C) → wpQuiet P l.toArray (fun w' => ∃ s : Cls C, w' = s.w) (fun a' => ∀ w', (∃ s : Cls C, w' = s.w) → R .normal a' w') l a) : (Code.region id l.toArray true).wp P R a w :=
  wp_region_quiet (C := fun w' => ∃ s : Cls C, w' = s.w) hm hB (show ∃ s : Cls C, w.drew = s.w from ⟨Cls.mk hC, rfl⟩) (by have := h ⟨Cls.mk hC⟩; rw [show l.toArray.toList = l from List.toList_toArray ..]; exact this)
theorem cls_same {C : World → Prop} {f : FuncId} {args : Array Value} {v : Value} {s : Cls C} (h : Calls P f args s.w fun e w' => e = .returned v ∧ s.w = w') : Calls P f args s.w fun e w'' => e = .returned v ∧ ∃ s : Cls C, w'' = s.w :=
  h.mono fun _ _ ⟨he, hw⟩ => ⟨he, s, hw.symm⟩
theorem cls_next {C : World → Prop} {f : FuncId} {args : Array Value} {v : Value} {s : Cls C} (hn : ∀ w', Below s.w.heap.size s.w w' → C s.w → C w') (h : Calls P f args s.w fun e w' => e = .returned v ∧ Below s.w.heap.size s.w w') : Calls P f args s.w fun e w'' => e = .returned v ∧ ∃ s : Cls C, w'' = s.w :=
  h.mono fun _ w' ⟨he, hb⟩ => ⟨he, Cls.mk (hn w' hb s.ok), rfl⟩
end
end Go.Proofs.YtgfoaopfdpclhaaGreatDoor
namespace Go.Proofs.YtgfoaopfdpclhaaGreatDoor
open Go.RowKit
set_option linter.unusedVariables false
set_option maxRecDepth 100000

@[simp, go_sem] theorem rqC_0 (r : Rq) : (rqC r)[0]? = some (.string (S r.h)) := Eq.trans rfl rfl
@[simp, go_sem] theorem rqC_1 (r : Rq) : (rqC r)[1]? = some (.string (S r.p)) := Eq.trans rfl rfl
@[simp, go_sem] theorem rqC_2 (r : Rq) : (rqC r)[2]? = some (.bool r.s) := Eq.trans rfl rfl
@[simp, go_sem] theorem rqC_3 (r : Rq) : (rqC r)[3]? = some (.bool r.c) := Eq.trans rfl rfl
@[simp, go_sem] theorem rqC_sz (r : Rq) : (rqC r).size = 4 := Eq.trans rfl rfl
@[simp, go_sem] theorem rqC_g0 (r : Rq) (h : 0 < (rqC r).size) : (rqC r)[0] = .string (S r.h) := rfl
@[simp, go_sem] theorem rqC_g1 (r : Rq) (h : 1 < (rqC r).size) : (rqC r)[1] = .string (S r.p) := rfl
@[simp, go_sem] theorem rqC_g2 (r : Rq) (h : 2 < (rqC r).size) : (rqC r)[2] = .bool r.s := rfl
@[simp, go_sem] theorem rqC_g3 (r : Rq) (h : 3 < (rqC r).size) : (rqC r)[3] = .bool r.c := rfl
def slashB (p : List UInt8) : Bool := decide (0 < p.length) && p.getD 0 0 == 47
def fragB (p : List UInt8) : Bool := decide (findAny p [63, 35] = p.length)
def fullB (r : Rq) : Bool := decide ((begU r.s).length + r.h.length + r.p.length ≤ 1024)
def rightU (r : Rq) : Bool := canonB r.h && slashB r.p && visB r.p && fragB r.p && fullB r

theorem prefix_47 (l : List UInt8) : Lib.hasPrefix l [47] = (decide (0 < l.length) && l.getD 0 0 == 47) := by
  cases l with
  | nil => rfl
  | cons a b =>
    show (([47] : List UInt8).isPrefixOf (a :: b)) = _
    rw [List.isPrefixOf]
    simp [Bool.beq_eq_decide_eq]
    exact eq_comm
theorem cany_b (p : List UInt8) (b : Bool) (w : World) (hl : p.length ≤ 4294967280) (ha : visB p = true) (h : fragB p = !b) :
    Calls Tryz.prog 46 #[.string (S p), .string ⟨#[63, 35]⟩] w fun e w' => e = .returned (.bool b) ∧ Below w.heap.size w w' := by
  obtain rfl : b = !fragB p := by rw [h, Bool.not_not]
  refine (Tryz.strings_ContainsAny_laid (S p) (S [63, 35]) w (by rw [S_size]; omega) (by rw [S_size]; decide) (ascii_of (vis_ascii ha)) (ascii_of (by decide))).mono ?_
  rintro e w' ⟨rfl, hb⟩
  refine ⟨ret_bool ?_, hb⟩
  unfold Lib.containsAny fragB
  rw [show Lib.indexAny (S p).data.toList (S [63, 35]).data.toList = if findAny p [63, 35] < p.length then (findAny p [63, 35] : Int) else -1 from indexAny_find p [63, 35]]
  have := findAny_le p [63, 35]
  by_cases h : findAny p [63, 35] < p.length
  · rw [if_pos h, decide_eq_true (by omega), decide_eq_false (by omega)]; rfl
  · rw [if_neg h, decide_eq_false (by omega), decide_eq_true (by omega)]; rfl
theorem hpfx_b (p : List UInt8) (b : Bool) (w : World) (hl : p.length ≤ 4294967280) (h : slashB p = b) :
    Calls Tryz.prog 44 #[.string (S p), .string ⟨#[47]⟩] w fun e w' => e = .returned (.bool b) ∧ w = w' := by
  subst h
  refine (hasPrefix_any (S p) (S [47]) w (by rw [S_size]; unfold maxLen; omega) (by decide)).mono ?_
  rintro e w' ⟨rfl, rfl⟩
  rw [S_toList, S_toList, prefix_47]
  exact ⟨rfl, rfl⟩
theorem vis_b (p : List UInt8) (b : Bool) (w : World) (hl : p.length ≤ 4294967280) (h : visB p = b) :
    Calls Tryz.prog 45 #[.string (S p)] w fun e w' => e = .returned (.bool b) ∧ w = w' := by
  subst h
  exact visible_any p w (by unfold maxLen; omega)
theorem ubegin_b (s : Bool) (w : World) : Calls Tryz.prog 47 #[.bool s] w fun e w' => e = .returned (.string (S (begU s))) ∧ w = w' :=
  ubegin_any s w

/-- The worlds in which a request's block lies as it was. -/
def RqAt (w : World) (r : Rq) (w' : World) : Prop := Blk w' w.heap.size 24 (rqC r) ∧ Below w.heap.size w w'
theorem RqAt.next {w W : World} {r : Rq} : ∀ W', Below W.heap.size W W' → RqAt w r W → RqAt w r W' := fun W' hb h => ⟨h.1.below hb, bel_call h.2 hb⟩
theorem RqAt.drew {w W : World} {r : Rq} (h : RqAt w r W) : RqAt w r W.drew := ⟨h.1, h.2.drew⟩
theorem RqAt.c0 {w : World} {r : Rq} (s : Cls (RqAt w r)) : s.w.cell? ⟨w.heap.size, 0, none⟩ = some (.string (S r.h)) := s.ok.1.cell 0
theorem RqAt.c1 {w : World} {r : Rq} (s : Cls (RqAt w r)) : s.w.cell? ⟨w.heap.size, 1, none⟩ = some (.string (S r.p)) := s.ok.1.cell 1
theorem RqAt.c2 {w : World} {r : Rq} (s : Cls (RqAt w r)) : s.w.cell? ⟨w.heap.size, 2, none⟩ = some (.bool r.s) := s.ok.1.cell 2
theorem RqAt.c3 {w : World} {r : Rq} (s : Cls (RqAt w r)) : s.w.cell? ⟨w.heap.size, 3, none⟩ = some (.bool r.c) := s.ok.1.cell 3

set_option maxRecDepth 100000 in
set_option maxHeartbeats 8000000 in
theorem uRight_any (r : Rq) (w : World) (h1 : r.h.length ≤ 4294967280) (h2 : r.p.length ≤ 4294967280) :
    Calls Tryz.prog 19 #[rqV r] w fun e w' => e = .returned (.bool (rightU r)) ∧ Below w.heap.size w w' := by
  have hB0 := bel_alloc (Below.refl w.heap.size w) (.cells (rqC r) 24)
  have hK0 := Blk.new_ w 24 (rqC r)
  have hzh : (S r.h).size ≤ 4294967296 := by rw [S_size]; omega
  have hR0 := Lib.hid (show rightU r = (canonB r.h && slashB r.p && visB r.p && fragB r.p && fullB r) from rfl)
  cases hc : canonB r.h
  · have hR := Lib.hid (show rightU r = false by rw [hR0.out, hc]; rfl)
    obtain ⟨x, e, hx⟩ : ∃ x e, canonT r.h = (x, e) := ⟨_, _, rfl⟩
    have hxH := Lib.hid hx
    have hcs : ((e == 0) = false) ∨ ((e == 0) = true ∧ (x == r.h) = false) := by
      rcases canonT_not hc with h | ⟨h, h'⟩
      · rw [hx] at h; exact .inl (beq_eq_false_iff_ne.2 h)
      · rw [hx] at h h'; exact .inr ⟨beq_iff_eq.2 h, beq_eq_false_iff_ne.2 h'⟩
    clear hx hR0 hc
    rcases hcs with hne | ⟨hne, hne2⟩
    all_goals
      go_enter Tryz.func19, Tryz.ntmps19
      go_wp2_with fail
      refine (canon_any (S r.h) _ hzh).mono ?_
      rintro e1 w1 ⟨rfl, hb1⟩
      rw [S_toList, hxH.out]
      have hK1 := hK0.below hb1
      obtain ⟨c0, c1, c2, c3, cf⟩ := rq_cells hK1
      have hbel := bel_call hB0 hb1
      clear hK0 hK1 hB0 hb1
      go_wp2_with fail
      go_quiet (fail)
      go_wp2
      go_ret
      rw [hR.out]
      exact ⟨rfl, below_drews hbel _⟩
  have hxH := Lib.hid (canonT_of hc)
  rw [hc, Bool.true_and] at hR0
  clear hc
  cases hs : slashB r.p
  · have hR := Lib.hid (show rightU r = false by rw [hR0.out, hs]; rfl)
    have hsH := Lib.hid hs
    clear hs hR0
    go_enter Tryz.func19, Tryz.ntmps19
    go_wp2_with fail
    refine (canon_any (S r.h) _ hzh).mono ?_
    rintro e1 w1 ⟨rfl, hb1⟩
    rw [S_toList, hxH.out]
    have hK1 := hK0.below hb1
    obtain ⟨c0, c1, c2, c3, cf⟩ := rq_cells hK1
    have hbel := bel_call hB0 hb1
    clear hK0 hK1 hB0 hb1
    go_wp2_with fail
    go_quiet ((first | (go_at_call 44; exact Calls.quiet_of_same ((hpfx_b _ _ _ h2 hsH.out).mono fun _ _ h => ⟨h.1, h.2.symm⟩))))
    go_wp2
    go_ret
    rw [hR.out]
    exact ⟨rfl, below_drews hbel _⟩
  have hsH := Lib.hid hs
  rw [hs, Bool.true_and] at hR0
  clear hs
  cases hv : visB r.p
  · have hR := Lib.hid (show rightU r = false by rw [hR0.out, hv]; rfl)
    have hvH := Lib.hid hv
    clear hv hR0
    go_enter Tryz.func19, Tryz.ntmps19
    go_wp2_with fail
    refine (canon_any (S r.h) _ hzh).mono ?_
    rintro e1 w1 ⟨rfl, hb1⟩
    rw [S_toList, hxH.out]
    have hK1 := hK0.below hb1
    obtain ⟨c0, c1, c2, c3, cf⟩ := rq_cells hK1
    have hbel := bel_call hB0 hb1
    clear hK0 hK1 hB0 hb1
    go_wp2_with fail
    go_quiet ((first | (go_at_call 44; exact Calls.quiet_of_same ((hpfx_b _ _ _ h2 hsH.out).mono fun _ _ h => ⟨h.1, h.2.symm⟩)) | (go_at_call 45; exact Calls.quiet_of_same ((vis_b _ _ _ h2 hvH.out).mono fun _ _ h => ⟨h.1, h.2.symm⟩))))
    go_wp2
    go_ret
    rw [hR.out]
    exact ⟨rfl, below_drews hbel _⟩
  have hvH := Lib.hid hv
  rw [hv, Bool.true_and] at hR0
  clear hv
  cases hf : fragB r.p
  · have hR := Lib.hid (show rightU r = false by rw [hR0.out, hf]; rfl)
    have hfH := Lib.hid hf
    clear hf hR0
    go_enter Tryz.func19, Tryz.ntmps19
    go_wp2_with fail
    refine (canon_any (S r.h) _ hzh).mono ?_
    rintro e1 w1 ⟨rfl, hb1⟩
    rw [S_toList, hxH.out]
    have hK1 : RqAt w r w1 := ⟨hK0.below hb1, bel_call hB0 hb1⟩
    have c0 := fun s => RqAt.c0 (w := w) (r := r) s
    have c1 := fun s => RqAt.c1 (w := w) (r := r) s
    have c2 := fun s => RqAt.c2 (w := w) (r := r) s
    clear hK0 hB0 hb1
    go_wp2_with fail
    refine wp_region_class (RqAt w r) (by kernel_rfl) (by kernel_rfl) hK1.drew (fun hne => ?_)
    clear hK1
    repeat (go_big_quiet_step (first
      | (go_at_call 44; exact cls_same (hpfx_b _ _ _ h2 hsH.out))
      | (go_at_call 45; exact cls_same (vis_b _ _ _ h2 hvH.out))
      | (go_at_call 46; exact cls_next RqAt.next (cany_b _ true _ h2 hvH.out (by rw [hfH.out]; rfl)))
      | (go_at_call 47; exact cls_same (ubegin_b _ _))))
    refine wpQuiet_nil ?_
    intro w' hw'
    obtain ⟨s, rfl⟩ := hw'
    have hbel := s.ok.2
    clear c0 c1 c2
    go_wp2
    go_ret
    rw [hR.out]
    exact ⟨rfl, hbel⟩
  have hfH := Lib.hid hf
  rw [hf, Bool.true_and] at hR0
  clear hf
  have hb8 : (begU r.s).length ≤ 8 := by unfold begU; split <;> decide
  by_cases hful : (begU r.s).length + r.h.length + r.p.length ≤ 1024
  · have hR := Lib.hid (show rightU r = true by rw [hR0.out]; exact decide_eq_true hful)
    have hfi : ((begU r.s).length : Int) + r.h.length + r.p.length ≤ 1024 := by omega
    clear hful hR0
    go_enter Tryz.func19, Tryz.ntmps19
    go_wp2_with fail
    refine (canon_any (S r.h) _ hzh).mono ?_
    rintro e1 w1 ⟨rfl, hb1⟩
    rw [S_toList, hxH.out]
    have hK1 : RqAt w r w1 := ⟨hK0.below hb1, bel_call hB0 hb1⟩
    have c0 := fun s => RqAt.c0 (w := w) (r := r) s
    have c1 := fun s => RqAt.c1 (w := w) (r := r) s
    have c2 := fun s => RqAt.c2 (w := w) (r := r) s
    clear hK0 hB0 hb1
    go_wp2_with fail
    refine wp_region_class (RqAt w r) (by kernel_rfl) (by kernel_rfl) hK1.drew (fun hne => ?_)
    clear hK1
    repeat (go_big_quiet_step (first
      | (go_at_call 44; exact cls_same (hpfx_b _ _ _ h2 hsH.out))
      | (go_at_call 45; exact cls_same (vis_b _ _ _ h2 hvH.out))
      | (go_at_call 46; exact cls_next RqAt.next (cany_b _ false _ h2 hvH.out (by rw [hfH.out]; rfl)))
      | (go_at_call 47; exact cls_same (ubegin_b _ _))))
    refine wpQuiet_nil ?_
    intro w' hw'
    obtain ⟨s, rfl⟩ := hw'
    have hbel := s.ok.2
    clear c0 c1 c2
    go_wp2
    go_ret
    rw [hR.out]
    exact ⟨rfl, hbel⟩
  · have hR := Lib.hid (show rightU r = false by rw [hR0.out]; exact decide_eq_false hful)
    have hfi : (1024 : Int) < ((begU r.s).length : Int) + r.h.length + r.p.length := by omega
    clear hful hR0
    go_enter Tryz.func19, Tryz.ntmps19
    go_wp2_with fail
    refine (canon_any (S r.h) _ hzh).mono ?_
    rintro e1 w1 ⟨rfl, hb1⟩
    rw [S_toList, hxH.out]
    have hK1 : RqAt w r w1 := ⟨hK0.below hb1, bel_call hB0 hb1⟩
    have c0 := fun s => RqAt.c0 (w := w) (r := r) s
    have c1 := fun s => RqAt.c1 (w := w) (r := r) s
    have c2 := fun s => RqAt.c2 (w := w) (r := r) s
    clear hK0 hB0 hb1
    go_wp2_with fail
    refine wp_region_class (RqAt w r) (by kernel_rfl) (by kernel_rfl) hK1.drew (fun hne => ?_)
    clear hK1
    repeat (go_big_quiet_step (first
      | (go_at_call 44; exact cls_same (hpfx_b _ _ _ h2 hsH.out))
      | (go_at_call 45; exact cls_same (vis_b _ _ _ h2 hvH.out))
      | (go_at_call 46; exact cls_next RqAt.next (cany_b _ false _ h2 hvH.out (by rw [hfH.out]; rfl)))
      | (go_at_call 47; exact cls_same (ubegin_b _ _))))
    refine wpQuiet_nil ?_
    intro w' hw'
    obtain ⟨s, rfl⟩ := hw'
    have hbel := s.ok.2
    clear c0 c1 c2
    go_wp2
    go_ret
    rw [hR.out]
    exact ⟨ret_bool (by first | rfl | exact decide_eq_false (by omega)), hbel⟩

theorem nil_false (l : List UInt8) (h : 256 < l.length) : canonB l = false := by
  rw [← refCanon_eq]
  unfold refCanonB
  rw [decide_eq_false (by omega)]
  rfl
set_option maxHeartbeats 1000000 in
theorem refCanonL_b (l : List UInt8) (b : Bool) (w : World) (hl : l.length ≤ maxLen) (h : canonB l = b) :
    Calls Tryz.prog 30 #[.string (S l)] w fun e w' => e = .returned (.bool b) ∧ Below w.heap.size w w' := by
  by_cases hs : l.length ≤ 4294967280
  · subst h
    have := refCanonical_any (S l) w (by rw [S_size]; omega)
    rw [S_toList] at this
    exact this
  · have hb : b = false := by rw [← h]; exact nil_false l (by omega)
    subst hb
    have h1i : (256 : Int) < l.length := by omega
    unfold maxLen at hl
    clear h hs
    go_enter Tryz.func30, Tryz.ntmps30
    go_wp2
    go_ret
    exact ⟨rfl, Below.refl _ _⟩
theorem refVis_b (p : List UInt8) (b : Bool) (w : World) (hl : p.length ≤ maxLen) (h : visB p = b) :
    Calls Tryz.prog 60 #[.string (S p)] w fun e w' => e = .returned (.bool b) ∧ w = w' := by
  subst h; exact refVisible_any p w hl

set_option maxRecDepth 100000 in
set_option maxHeartbeats 8000000 in
theorem refRight10_any (r : Rq) (w : World) (h1 : r.h.length ≤ 140737488355328) (h2 : r.p.length ≤ 140737488355328) :
    Calls Tryz.prog 27 #[rqV r] w fun e w' => e = .returned (.bool (rightU r)) ∧ Below w.heap.size w w' := by
  have hB0 := bel_alloc (Below.refl w.heap.size w) (.cells (rqC r) 24)
  have hK0 := Blk.new_ w 24 (rqC r)
  have hzh : r.h.length ≤ maxLen := by unfold maxLen; omega
  have hzp : r.p.length ≤ maxLen := by unfold maxLen; omega
  have hR0 := Lib.hid (show rightU r = (canonB r.h && slashB r.p && visB r.p && fragB r.p && fullB r) from rfl)
  have hbl : (begU r.s).length = if r.s then 8 else 7 := by unfold begU; cases r.s <;> rfl
  have hK1 : RqAt w r (w.alloc (.cells (rqC r) 24)) := ⟨hK0, hB0⟩
  have hcs : (canonB r.h = false ∧ Hid (rightU r = false)) ∨ (canonB r.h = true ∧ decide (0 < r.p.length) = false ∧ Hid (rightU r = false)) ∨ (canonB r.h = true ∧ 0 < r.p.length ∧ (r.p.getD 0 0 == 47) = false ∧ Hid (rightU r = false)) ∨
      (canonB r.h = true ∧ 0 < r.p.length ∧ (r.p.getD 0 0 == 47) = true ∧ visB r.p = false ∧ Hid (rightU r = false)) ∨ (canonB r.h = true ∧ 0 < r.p.length ∧ (r.p.getD 0 0 == 47) = true ∧ visB r.p = true ∧ fragB r.p = false ∧ Hid (rightU r = false)) ∨
      (canonB r.h = true ∧ 0 < r.p.length ∧ (r.p.getD 0 0 == 47) = true ∧ visB r.p = true ∧ fragB r.p = true ∧ Hid (rightU r = fullB r)) := by
    have e := hR0.out
    unfold slashB at e
    cases h : canonB r.h
    · exact .inl ⟨rfl, Lib.hid (by rw [e, h]; rfl)⟩
    refine .inr ?_
    by_cases h' : 0 < r.p.length
    case neg => exact .inl ⟨rfl, decide_eq_false h', Lib.hid (by rw [e, h, decide_eq_false h']; rfl)⟩
    refine .inr ?_
    cases h3 : (r.p.getD 0 0 == 47)
    · exact .inl ⟨rfl, h', rfl, Lib.hid (by rw [e, h, decide_eq_true h', h3]; rfl)⟩
    refine .inr ?_
    cases h4 : visB r.p
    · exact .inl ⟨rfl, h', rfl, rfl, Lib.hid (by rw [e, h, decide_eq_true h', h3, h4]; rfl)⟩
    refine .inr ?_
    cases h5 : fragB r.p
    · exact .inl ⟨rfl, h', rfl, rfl, rfl, Lib.hid (by rw [e, h, decide_eq_true h', h3, h4, h5]; rfl)⟩
    · exact .inr ⟨rfl, h', rfl, rfl, rfl, Lib.hid (by rw [e, h, decide_eq_true h', h3, h4, h5]; rfl)⟩
  clear hR0 hK0 hB0
  have hg : ∀ h, (S r.p)[0]'h = r.p.getD 0 0 := fun h => by rw [get_l _ _ h, S_toList]
  have hne := eqc (a := r.p.getD 0 0) (i := 47) 47 rfl
  have c0 := fun s => RqAt.c0 (w := w) (r := r) s
  have c1 := fun s => RqAt.c1 (w := w) (r := r) s
  have c2 := fun s => RqAt.c2 (w := w) (r := r) s
  rcases hcs with ⟨hc, hR⟩ | hcs
  · have hcH := Lib.hid hc
    have hvH := Lib.hid (show visB r.p = visB r.p from rfl)
    have hkH := Lib.hid (show findAny r.p [63, 35] = findAny r.p [63, 35] from rfl)
    clear hc hne
    obtain ⟨h, p, s, c⟩ := r
    simp only at *
    cases s
    · go_enter Tryz.func27, Tryz.ntmps27
      go_wp2_with fail
      refine wp_region_class (RqAt w ⟨h, p, false, c⟩) (by kernel_rfl) (by kernel_rfl) hK1.drew (fun hne => ?_)
      clear hK1
      repeat (go_big_quiet_step (first
        | (go_at_call 30; exact cls_next RqAt.next (refCanonL_b _ _ _ hzh hcH.out))
        | (go_at_call 60; exact cls_same (refVis_b _ _ _ hzp hvH.out))
        | (go_at_call 61; exact cls_same ((rfind_any _ [63, 35] _ hzp (by decide)).mono fun _ _ h => ⟨h.1.trans (by rw [hkH.out]), h.2⟩))))
      refine wpQuiet_nil ?_
      intro w' hw'
      obtain ⟨s, rfl⟩ := hw'
      have hbel := s.ok.2
      clear c0 c1 c2
      go_wp2
      go_ret
      rw [hR.out]
      exact ⟨rfl, hbel⟩
    · go_enter Tryz.func27, Tryz.ntmps27
      go_wp2_with fail
      refine wp_region_class (RqAt w ⟨h, p, true, c⟩) (by kernel_rfl) (by kernel_rfl) hK1.drew (fun hne => ?_)
      clear hK1
      repeat (go_big_quiet_step (first
        | (go_at_call 30; exact cls_next RqAt.next (refCanonL_b _ _ _ hzh hcH.out))
        | (go_at_call 60; exact cls_same (refVis_b _ _ _ hzp hvH.out))
        | (go_at_call 61; exact cls_same ((rfind_any _ [63, 35] _ hzp (by decide)).mono fun _ _ h => ⟨h.1.trans (by rw [hkH.out]), h.2⟩))))
      refine wpQuiet_nil ?_
      intro w' hw'
      obtain ⟨s, rfl⟩ := hw'
      have hbel := s.ok.2
      clear c0 c1 c2
      go_wp2
      go_ret
      rw [hR.out]
      exact ⟨rfl, hbel⟩
  rcases hcs with ⟨hc, hp0, hR⟩ | hcs
  · have hcH := Lib.hid hc
    have hp0i : decide ((0 : Int) < r.p.length) = false := decide_eq_false (by have := of_decide_eq_false hp0; omega)
    have hvH := Lib.hid (show visB r.p = visB r.p from rfl)
    have hkH := Lib.hid (show findAny r.p [63, 35] = findAny r.p [63, 35] from rfl)
    clear hc hne
    obtain ⟨h, p, s, c⟩ := r
    simp only at *
    cases s
    · go_enter Tryz.func27, Tryz.ntmps27
      go_wp2_with fail
      refine wp_region_class (RqAt w ⟨h, p, false, c⟩) (by kernel_rfl) (by kernel_rfl) hK1.drew (fun hne => ?_)
      clear hK1
      repeat (go_big_quiet_step (first
        | (go_at_call 30; exact cls_next RqAt.next (refCanonL_b _ _ _ hzh hcH.out))
        | (go_at_call 60; exact cls_same (refVis_b _ _ _ hzp hvH.out))
        | (go_at_call 61; exact cls_same ((rfind_any _ [63, 35] _ hzp (by decide)).mono fun _ _ h => ⟨h.1.trans (by rw [hkH.out]), h.2⟩))))
      refine wpQuiet_nil ?_
      intro w' hw'
      obtain ⟨s, rfl⟩ := hw'
      have hbel := s.ok.2
      clear c0 c1 c2
      go_wp2
      go_ret
      rw [hR.out]
      exact ⟨rfl, hbel⟩
    · go_enter Tryz.func27, Tryz.ntmps27
      go_wp2_with fail
      refine wp_region_class (RqAt w ⟨h, p, true, c⟩) (by kernel_rfl) (by kernel_rfl) hK1.drew (fun hne => ?_)
      clear hK1
      repeat (go_big_quiet_step (first
        | (go_at_call 30; exact cls_next RqAt.next (refCanonL_b _ _ _ hzh hcH.out))
        | (go_at_call 60; exact cls_same (refVis_b _ _ _ hzp hvH.out))
        | (go_at_call 61; exact cls_same ((rfind_any _ [63, 35] _ hzp (by decide)).mono fun _ _ h => ⟨h.1.trans (by rw [hkH.out]), h.2⟩))))
      refine wpQuiet_nil ?_
      intro w' hw'
      obtain ⟨s, rfl⟩ := hw'
      have hbel := s.ok.2
      clear c0 c1 c2
      go_wp2
      go_ret
      rw [hR.out]
      exact ⟨rfl, hbel⟩
  rcases hcs with ⟨hc, hp0, h47, hR⟩ | hcs
  · have hcH := Lib.hid hc
    have hp0i : (0 : Int) < r.p.length := by omega
    rw [h47] at hne
    have hvH := Lib.hid (show visB r.p = visB r.p from rfl)
    have hkH := Lib.hid (show findAny r.p [63, 35] = findAny r.p [63, 35] from rfl)
    clear hc h47
    generalize r.p.getD 0 0 = c9 at *
    obtain ⟨h, p, s, c⟩ := r
    simp only at *
    cases s
    · go_enter Tryz.func27, Tryz.ntmps27
      go_wp2_with fail
      refine wp_region_class (RqAt w ⟨h, p, false, c⟩) (by kernel_rfl) (by kernel_rfl) hK1.drew (fun hne => ?_)
      clear hK1
      repeat (go_big_quiet_step (first
        | (go_at_call 30; exact cls_next RqAt.next (refCanonL_b _ _ _ hzh hcH.out))
        | (go_at_call 60; exact cls_same (refVis_b _ _ _ hzp hvH.out))
        | (go_at_call 61; exact cls_same ((rfind_any _ [63, 35] _ hzp (by decide)).mono fun _ _ h => ⟨h.1.trans (by rw [hkH.out]), h.2⟩))))
      refine wpQuiet_nil ?_
      intro w' hw'
      obtain ⟨s, rfl⟩ := hw'
      have hbel := s.ok.2
      clear c0 c1 c2
      go_wp2
      go_ret
      rw [hR.out]
      exact ⟨rfl, hbel⟩
    · go_enter Tryz.func27, Tryz.ntmps27
      go_wp2_with fail
      refine wp_region_class (RqAt w ⟨h, p, true, c⟩) (by kernel_rfl) (by kernel_rfl) hK1.drew (fun hne => ?_)
      clear hK1
      repeat (go_big_quiet_step (first
        | (go_at_call 30; exact cls_next RqAt.next (refCanonL_b _ _ _ hzh hcH.out))
        | (go_at_call 60; exact cls_same (refVis_b _ _ _ hzp hvH.out))
        | (go_at_call 61; exact cls_same ((rfind_any _ [63, 35] _ hzp (by decide)).mono fun _ _ h => ⟨h.1.trans (by rw [hkH.out]), h.2⟩))))
      refine wpQuiet_nil ?_
      intro w' hw'
      obtain ⟨s, rfl⟩ := hw'
      have hbel := s.ok.2
      clear c0 c1 c2
      go_wp2
      go_ret
      rw [hR.out]
      exact ⟨rfl, hbel⟩
  rcases hcs with ⟨hc, hp0, h47, hv, hR⟩ | hcs
  · have hcH := Lib.hid hc
    have hp0i : (0 : Int) < r.p.length := by omega
    rw [h47] at hne
    have hvH := Lib.hid hv
    have hkH := Lib.hid (show findAny r.p [63, 35] = findAny r.p [63, 35] from rfl)
    clear hc h47 hv
    generalize r.p.getD 0 0 = c9 at *
    obtain ⟨h, p, s, c⟩ := r
    simp only at *
    cases s
    · go_enter Tryz.func27, Tryz.ntmps27
      go_wp2_with fail
      refine wp_region_class (RqAt w ⟨h, p, false, c⟩) (by kernel_rfl) (by kernel_rfl) hK1.drew (fun hne => ?_)
      clear hK1
      repeat (go_big_quiet_step (first
        | (go_at_call 30; exact cls_next RqAt.next (refCanonL_b _ _ _ hzh hcH.out))
        | (go_at_call 60; exact cls_same (refVis_b _ _ _ hzp hvH.out))
        | (go_at_call 61; exact cls_same ((rfind_any _ [63, 35] _ hzp (by decide)).mono fun _ _ h => ⟨h.1.trans (by rw [hkH.out]), h.2⟩))))
      refine wpQuiet_nil ?_
      intro w' hw'
      obtain ⟨s, rfl⟩ := hw'
      have hbel := s.ok.2
      clear c0 c1 c2
      go_wp2
      go_ret
      rw [hR.out]
      exact ⟨rfl, hbel⟩
    · go_enter Tryz.func27, Tryz.ntmps27
      go_wp2_with fail
      refine wp_region_class (RqAt w ⟨h, p, true, c⟩) (by kernel_rfl) (by kernel_rfl) hK1.drew (fun hne => ?_)
      clear hK1
      repeat (go_big_quiet_step (first
        | (go_at_call 30; exact cls_next RqAt.next (refCanonL_b _ _ _ hzh hcH.out))
        | (go_at_call 60; exact cls_same (refVis_b _ _ _ hzp hvH.out))
        | (go_at_call 61; exact cls_same ((rfind_any _ [63, 35] _ hzp (by decide)).mono fun _ _ h => ⟨h.1.trans (by rw [hkH.out]), h.2⟩))))
      refine wpQuiet_nil ?_
      intro w' hw'
      obtain ⟨s, rfl⟩ := hw'
      have hbel := s.ok.2
      clear c0 c1 c2
      go_wp2
      go_ret
      rw [hR.out]
      exact ⟨rfl, hbel⟩
  rcases hcs with ⟨hc, hp0, h47, hv, hf, hR⟩ | hcs
  · have hcH := Lib.hid hc
    have hp0i : (0 : Int) < r.p.length := by omega
    rw [h47] at hne
    have hvH := Lib.hid hv
    obtain ⟨kf, hk⟩ : ∃ k, findAny r.p [63, 35] = k := ⟨_, rfl⟩
    have hkH := Lib.hid hk
    have hkb : ((kf : Int) == (r.p.length : Int)) = false := by rw [← hk]; unfold fragB at hf; have := of_decide_eq_false hf; rw [beq_eq_false_iff_ne]; omega
    clear hc h47 hv hf hk
    generalize r.p.getD 0 0 = c9 at *
    obtain ⟨h, p, s, c⟩ := r
    simp only at *
    cases s
    · go_enter Tryz.func27, Tryz.ntmps27
      go_wp2_with fail
      refine wp_region_class (RqAt w ⟨h, p, false, c⟩) (by kernel_rfl) (by kernel_rfl) hK1.drew (fun hne => ?_)
      clear hK1
      repeat (go_big_quiet_step (first
        | (go_at_call 30; exact cls_next RqAt.next (refCanonL_b _ _ _ hzh hcH.out))
        | (go_at_call 60; exact cls_same (refVis_b _ _ _ hzp hvH.out))
        | (go_at_call 61; exact cls_same ((rfind_any _ [63, 35] _ hzp (by decide)).mono fun _ _ h => ⟨h.1.trans (by rw [hkH.out]), h.2⟩))))
      refine wpQuiet_nil ?_
      intro w' hw'
      obtain ⟨s, rfl⟩ := hw'
      have hbel := s.ok.2
      clear c0 c1 c2
      go_wp2
      go_ret
      rw [hR.out]
      exact ⟨rfl, hbel⟩
    · go_enter Tryz.func27, Tryz.ntmps27
      go_wp2_with fail
      refine wp_region_class (RqAt w ⟨h, p, true, c⟩) (by kernel_rfl) (by kernel_rfl) hK1.drew (fun hne => ?_)
      clear hK1
      repeat (go_big_quiet_step (first
        | (go_at_call 30; exact cls_next RqAt.next (refCanonL_b _ _ _ hzh hcH.out))
        | (go_at_call 60; exact cls_same (refVis_b _ _ _ hzp hvH.out))
        | (go_at_call 61; exact cls_same ((rfind_any _ [63, 35] _ hzp (by decide)).mono fun _ _ h => ⟨h.1.trans (by rw [hkH.out]), h.2⟩))))
      refine wpQuiet_nil ?_
      intro w' hw'
      obtain ⟨s, rfl⟩ := hw'
      have hbel := s.ok.2
      clear c0 c1 c2
      go_wp2
      go_ret
      rw [hR.out]
      exact ⟨rfl, hbel⟩
  · obtain ⟨hc, hp0, h47, hv, hf, hR⟩ := hcs
    have hcH := Lib.hid hc
    have hp0i : (0 : Int) < r.p.length := by omega
    rw [h47] at hne
    have hvH := Lib.hid hv
    have hkH := Lib.hid (show findAny r.p [63, 35] = r.p.length from of_decide_eq_true hf)
    clear hc h47 hv hf
    generalize r.p.getD 0 0 = c9 at *
    obtain ⟨h, p, s, c⟩ := r
    simp only at *
    cases s
    · by_cases hful : 7 + h.length + p.length ≤ 1024
      · have hF := Lib.hid (show fullB ⟨h, p, false, c⟩ = true from decide_eq_true hful)
        have hfi : (7 : Int) + h.length + p.length ≤ 1024 := by omega
        clear hful
        go_enter Tryz.func27, Tryz.ntmps27
        go_wp2_with fail
        refine wp_region_class (RqAt w ⟨h, p, false, c⟩) (by kernel_rfl) (by kernel_rfl) hK1.drew (fun hne => ?_)
        clear hK1
        repeat (go_big_quiet_step (first
          | (go_at_call 30; exact cls_next RqAt.next (refCanonL_b _ _ _ hzh hcH.out))
          | (go_at_call 60; exact cls_same (refVis_b _ _ _ hzp hvH.out))
          | (go_at_call 61; exact cls_same ((rfind_any _ [63, 35] _ hzp (by decide)).mono fun _ _ h => ⟨h.1.trans (by rw [hkH.out]), h.2⟩))))
        refine wpQuiet_nil ?_
        intro w' hw'
        obtain ⟨s, rfl⟩ := hw'
        have hbel := s.ok.2
        clear c0 c1 c2
        go_wp2
        go_ret
        rw [hR.out]
        rw [hF.out]
        exact ⟨ret_bool (by first | rfl | exact decide_eq_true (by omega)), hbel⟩
      · have hF := Lib.hid (show fullB ⟨h, p, false, c⟩ = false from decide_eq_false hful)
        have hfi : (1024 : Int) < (7 : Int) + h.length + p.length := by omega
        clear hful
        go_enter Tryz.func27, Tryz.ntmps27
        go_wp2_with fail
        refine wp_region_class (RqAt w ⟨h, p, false, c⟩) (by kernel_rfl) (by kernel_rfl) hK1.drew (fun hne => ?_)
        clear hK1
        repeat (go_big_quiet_step (first
          | (go_at_call 30; exact cls_next RqAt.next (refCanonL_b _ _ _ hzh hcH.out))
          | (go_at_call 60; exact cls_same (refVis_b _ _ _ hzp hvH.out))
          | (go_at_call 61; exact cls_same ((rfind_any _ [63, 35] _ hzp (by decide)).mono fun _ _ h => ⟨h.1.trans (by rw [hkH.out]), h.2⟩))))
        refine wpQuiet_nil ?_
        intro w' hw'
        obtain ⟨s, rfl⟩ := hw'
        have hbel := s.ok.2
        clear c0 c1 c2
        go_wp2
        go_ret
        rw [hR.out]
        rw [hF.out]
        exact ⟨ret_bool (by first | rfl | exact decide_eq_false (by omega)), hbel⟩
    · by_cases hful : 8 + h.length + p.length ≤ 1024
      · have hF := Lib.hid (show fullB ⟨h, p, true, c⟩ = true from decide_eq_true hful)
        have hfi : (8 : Int) + h.length + p.length ≤ 1024 := by omega
        clear hful
        go_enter Tryz.func27, Tryz.ntmps27
        go_wp2_with fail
        refine wp_region_class (RqAt w ⟨h, p, true, c⟩) (by kernel_rfl) (by kernel_rfl) hK1.drew (fun hne => ?_)
        clear hK1
        repeat (go_big_quiet_step (first
          | (go_at_call 30; exact cls_next RqAt.next (refCanonL_b _ _ _ hzh hcH.out))
          | (go_at_call 60; exact cls_same (refVis_b _ _ _ hzp hvH.out))
          | (go_at_call 61; exact cls_same ((rfind_any _ [63, 35] _ hzp (by decide)).mono fun _ _ h => ⟨h.1.trans (by rw [hkH.out]), h.2⟩))))
        refine wpQuiet_nil ?_
        intro w' hw'
        obtain ⟨s, rfl⟩ := hw'
        have hbel := s.ok.2
        clear c0 c1 c2
        go_wp2
        go_ret
        rw [hR.out]
        rw [hF.out]
        exact ⟨ret_bool (by first | rfl | exact decide_eq_true (by omega)), hbel⟩
      · have hF := Lib.hid (show fullB ⟨h, p, true, c⟩ = false from decide_eq_false hful)
        have hfi : (1024 : Int) < (8 : Int) + h.length + p.length := by omega
        clear hful
        go_enter Tryz.func27, Tryz.ntmps27
        go_wp2_with fail
        refine wp_region_class (RqAt w ⟨h, p, true, c⟩) (by kernel_rfl) (by kernel_rfl) hK1.drew (fun hne => ?_)
        clear hK1
        repeat (go_big_quiet_step (first
          | (go_at_call 30; exact cls_next RqAt.next (refCanonL_b _ _ _ hzh hcH.out))
          | (go_at_call 60; exact cls_same (refVis_b _ _ _ hzp hvH.out))
          | (go_at_call 61; exact cls_same ((rfind_any _ [63, 35] _ hzp (by decide)).mono fun _ _ h => ⟨h.1.trans (by rw [hkH.out]), h.2⟩))))
        refine wpQuiet_nil ?_
        intro w' hw'
        obtain ⟨s, rfl⟩ := hw'
        have hbel := s.ok.2
        clear c0 c1 c2
        go_wp2
        go_ret
        rw [hR.out]
        rw [hF.out]
        exact ⟨ret_bool (by first | rfl | exact decide_eq_false (by omega)), hbel⟩
end Go.Proofs.YtgfoaopfdpclhaaGreatDoor
