/-
  The law CookieRight.
-/
import Derived.Test.YtgfoaopfdpclhaaGreatDoorBu34
import Derived.Test.YtgfoaopfdpclhaaGreatDoorLaItem
import Derived.Test.YtgfoaopfdpclhaaGreatDoorBu29
namespace Go.Proofs.YtgfoaopfdpclhaaGreatDoor
open Go.RowKit Go.Deep Go.WideShapes
set_option linter.unusedVariables false
set_option maxRecDepth 100000

section
variable {H : Type} {enc : TypeId × Value → H} {w : World} {base : Nat} {spare : Nat → Bool} {held : Bool}
set_option maxRecDepth 100000 in
theorem open_item {base0 : Nat} {v : Value} {d : DataW H} {p : List MemPlace} (hval : Value.okWide Tryz.prog w .any base0 34 v) (h : DataW.Trod enc Tryz.prog w 0 (fun _ => true) true 34 v d p) :
    ∃ x : It, v = .agg (cI x).toArray ∧ okI x := by
  obtain ⟨cs, rfl, hcs⟩ := okWide_struct Tryz.unnI hval
  obtain ⟨fuel, hf⟩ := h
  obtain ⟨q, e, hq⟩ := item_cells hf
  have e2 : cs.toList = cI q := by simpa [Value.cells] using e
  have e3 : cs = (cI q).toArray := by rw [← Array.toList_inj]; simpa using e2
  subst e3
  exact ⟨q, rfl, hq⟩
end
/-- The worlds in which an item lies as it was, and the table of months. -/
def OneI (w : World) (x : It) (W : World) : Prop := itAt W w.heap.size 0 = some x ∧ Below w.heap.size w W ∧ Mon W
theorem OneI.next {w W : World} {x : It} : ∀ W', Below W.heap.size W W' → OneI w x W → OneI w x W' := fun W' hb h => ⟨itAt_later h.1 hb, bel_call h.2.1 hb, h.2.2.next hb⟩
theorem OneI.drew {w W : World} {x : It} (h : OneI w x W) : OneI w x W.drew := OneI.next _ (Below.refl _ _).drew h
theorem OneI.c0 {w : World} {x : It} (s : Cls (OneI w x)) : itAt s.w w.heap.size 0 = some x := s.ok.1
theorem awake14_cls {w : World} {x : It} (s : Cls (OneI w x)) : Calls Tryz.prog 8 #[] s.w fun e w' => e = .returned (.bool true) ∧ Below s.w.heap.size s.w w' := awake14_any s.w s.ok.2.2
theorem lit_bC {P : Program} {f : FuncId} {args : Array Value} {w : World} {x v : Bool} (hx : x = v) (h : Calls P f args w fun e w' => e = .returned (.bool x) ∧ Below w.heap.size w w') : Calls P f args w fun e w' => e = .returned (.bool v) ∧ Below w.heap.size w w' :=
  h.mono fun _ _ h => ⟨by rw [h.1, hx], h.2⟩
set_option maxRecDepth 100000 in
set_option maxHeartbeats 8000000 in
theorem cookieRight (x : It) (w : World) (hx : okI x) (hm : Mon w) :
    Calls Tryz.prog 4 #[.agg (cI x).toArray] w fun e w' => e = .returned (.bool true) ∧ Below w.heap.size w w' := by
  clear hx
  have hb0 := bel_alloc (Below.refl w.heap.size w) (.cells (cI x).toArray 34)
  have hI0 := itAt_new w x 34 w.heap.size rfl
  have hm0 := hm.next hb0
  clear hm
  go_enter Tryz.func4, Tryz.ntmps4
  go_upto_region 1 with (fail)
  show Code.wp _ _ _ _ (w.alloc (.cells (cI x).toArray 34))
  generalize w.alloc (.cells (cI x).toArray 34) = w0 at *
  obtain ⟨c0, c1, c2⟩ := ky_cells (kyAt_it hI0)
  have c3 : w0.cell? ⟨w.heap.size, 3, none⟩ = some (.string (S x.c.v)) := rdAt_range (f := cI) hI0 3 _ rfl
  by_cases hbad : 2000 < x.k.n.length ∨ 2000 < x.k.d.length ∨ 2000 < x.k.p.length ∨ 2000 < x.c.v.length
  · have hcs : (2000 < x.k.n.length) ∨ (x.k.n.length ≤ 2000 ∧ 2000 < x.k.d.length) ∨ (x.k.n.length ≤ 2000 ∧ x.k.d.length ≤ 2000 ∧ 2000 < x.k.p.length) ∨ (x.k.n.length ≤ 2000 ∧ x.k.d.length ≤ 2000 ∧ x.k.p.length ≤ 2000 ∧ 2000 < x.c.v.length) := by omega
    clear hbad
    rcases hcs with a | ⟨a, b⟩ | ⟨a, b, d⟩ | ⟨a, b, d, e⟩
    all_goals
      try have a1 : (2000 : Int) < x.k.n.length := by omega
      try have a2 : (x.k.n.length : Int) ≤ 2000 := by omega
      try have a3 : (2000 : Int) < x.k.d.length := by omega
      try have a4 : (x.k.d.length : Int) ≤ 2000 := by omega
      try have a5 : (2000 : Int) < x.k.p.length := by omega
      try have a6 : (x.k.p.length : Int) ≤ 2000 := by omega
      try have a7 : (2000 : Int) < x.c.v.length := by omega
      go_wp2_with (go_at_call 8; refine (awake14_any _ hm0).mono ?_; rintro e w99 ⟨rfl, hb99⟩)
      go_ret
      exact ⟨rfl, bel_call hb0 hb99⟩
  · have hsh : ShI x := ⟨by omega, by omega, by omega, by omega⟩
    have a2 : (x.k.n.length : Int) ≤ 2000 := by omega
    have a4 : (x.k.d.length : Int) ≤ 2000 := by omega
    have a6 : (x.k.p.length : Int) ≤ 2000 := by omega
    have a8 : (x.c.v.length : Int) ≤ 2000 := by omega
    clear hbad
    have hT0 : OneI w x w0 := ⟨hI0, hb0, hm0⟩
    go_upto_region 3 with (fail)
    clear a2 a4 a6 a8 c0 c1 c2 c3 hI0 hb0 hm0
    have c0 := fun s => OneI.c0 (w := w) (x := x) s
    obtain ⟨β, hβ⟩ : ∃ b, Hid (rightI x = b) := ⟨_, rfl⟩
    cases β
    all_goals
      refine wp_region_class (OneI w x) (by kernel_rfl) (by kernel_rfl) hT0.drew (fun hne => ?_)
      clear hT0
      repeat (go_big_quiet_step (first
        | (go_at_call 11; exact cls_next OneI.next (lit_bC hβ.out (right_any x _ hsh)))
        | (go_at_call 12; exact cls_next OneI.next (lit_bC hβ.out (refRight_any' x _ hsh)))
        | (go_at_call 8; exact cls_next OneI.next (awake14_cls _))))
      refine wpQuiet_nil ?_
      intro w' hw'
      obtain ⟨s, rfl⟩ := hw'
      have hT2 := s.ok
      generalize s.w = w2 at *
      clear s c0
      go_wp2
      go_ret
      exact ⟨rfl, hT2.2.1⟩
end Go.Proofs.YtgfoaopfdpclhaaGreatDoor
