/-
  The law MatchOrders.
-/
import Derived.Test.YtdefpphfbpkeaaaMatchSorts
import Derived.Test.YtdefpphfbpkeaaaLex
namespace Go.Proofs.Ytdefpphfbpkeaaa
open Go.RowKit Go.Deep Go.WideShapes
set_option linter.unusedVariables false

section
variable {H : Type} {enc : TypeId × Value → H} {w : World} {base : Nat} {spare : Nat → Bool} {held : Bool}
set_option maxRecDepth 100000 in
theorem open_item {base0 : Nat} {v : Value} {d : DataW H} {p : List MemPlace} (hval : Value.okWide Try.prog w .any base0 51 v) (h : DataW.Trod enc Try.prog w 0 (fun _ => true) true 51 v d p) :
    ∃ x : It, v = .agg (cI x).toArray ∧ okI x := by
  obtain ⟨cs, rfl, hcs⟩ := okWide_struct Try.unnI hval
  obtain ⟨fuel, hf⟩ := h
  obtain ⟨q, e, hq⟩ := item_cells hf
  have e2 : cs.toList = cI q := by simpa [Value.cells] using e
  have e3 : cs = (cI q).toArray := by rw [← Array.toList_inj]; simpa using e2
  subst e3
  exact ⟨q, rfl, hq⟩
end
theorem lit_b {P : Program} {f : FuncId} {args : Array Value} {w : World} {x v : Bool} (hx : x = v) (h : Calls P f args w fun e w' => e = .returned (.bool x) ∧ Below w.heap.size w w') : Calls P f args w fun e w' => e = .returned (.bool v) ∧ Below w.heap.size w w' :=
  h.mono fun _ _ h => ⟨by rw [h.1, hx], h.2⟩
/-- The worlds in which two items lie as they were. -/
def TwoI (w : World) (a b : It) (W : World) : Prop := (itAt W w.heap.size 0 = some a ∧ itAt W (w.heap.size + 1) 0 = some b) ∧ Below w.heap.size w W
theorem TwoI.next {w W : World} {a b : It} : ∀ W', Below W.heap.size W W' → TwoI w a b W → TwoI w a b W' := fun W' hb h => ⟨⟨itAt_later h.1.1 hb, itAt_later h.1.2 hb⟩, bel_call h.2 hb⟩
theorem TwoI.drew {w W : World} {a b : It} (h : TwoI w a b W) : TwoI w a b W.drew := TwoI.next _ (Below.refl _ _).drew h
theorem TwoI.c0 {w : World} {a b : It} (s : Cls (TwoI w a b)) : itAt s.w w.heap.size 0 = some a := s.ok.1.1
theorem TwoI.c1 {w : World} {a b : It} (s : Cls (TwoI w a b)) : itAt s.w (w.heap.size + 1) 0 = some b := s.ok.1.2
theorem TwoI.k0 {w : World} {a b : It} (s : Cls (TwoI w a b)) : kyAt s.w w.heap.size 0 = some a.k := kyAt_it s.ok.1.1
theorem TwoI.k1 {w : World} {a b : It} (s : Cls (TwoI w a b)) : kyAt s.w (w.heap.size + 1) 0 = some b.k := kyAt_it s.ok.1.2

set_option maxRecDepth 100000 in
set_option maxHeartbeats 8000000 in
theorem matchOrders (a b : It) (w : World) (ha : okI a) (hb : okI b) :
    Calls Try.prog 10 #[.agg (cI a).toArray, .agg (cI b).toArray] w fun e w' => e = .returned (.bool true) ∧ Below w.heap.size w w' := by
  have l1 : a.k.p.length ≤ 9223372036854775807 := by have := ha.1.2.2; unfold maxLen at this; omega
  have l2 : b.k.p.length ≤ 9223372036854775807 := by have := hb.1.2.2; unfold maxLen at this; omega
  clear ha hb
  have hT0 : TwoI w a b (((w.alloc (.cells (cI a).toArray 51)).alloc (.cells (cI b).toArray 51)).alloc (.cells (cI a ++ cI b).toArray 51)) := by
    refine TwoI.next _ (bel_alloc (Below.refl _ _) _) ⟨⟨?_, ?_⟩, bel_alloc (bel_alloc (Below.refl _ _) _) _⟩
    · exact itAt_later (itAt_new w a 51 w.heap.size rfl) (bel_alloc (Below.refl _ _) _)
    · exact itAt_new (w.alloc (.cells (cI a).toArray 51)) b 51 (w.heap.size + 1) (by simp)
  have hR0 := rd_twoI ((w.alloc (.cells (cI a).toArray 51)).alloc (.cells (cI b).toArray 51)) a b 51 (w.heap.size + 1 + 1) (by simp)
  cases hla : lightL 60 [a, b] with
  | false =>
    go_enter Try.func10, Try.ntmps10
    go_wp2_with fail
    show Calls _ _ _ (((w.alloc (.cells (cI a).toArray 51)).alloc (.cells (cI b).toArray 51)).alloc (.cells (cI a ++ cI b).toArray 51)) _
    generalize (((w.alloc (.cells (cI a).toArray 51)).alloc (.cells (cI b).toArray 51)).alloc (.cells (cI a ++ cI b).toArray 51)) = W at *
    refine (light15_any _ 2 2 [a, b] W hR0).mono ?_
    rintro e w1 ⟨rfl, hb1⟩
    have hB1 := bel_call hT0.2 hb1
    rw [hla]
    clear hT0 hR0 hb1
    go_wp2_with (go_at_call 33; refine (awake15 _).mono ?_; rintro e w99 ⟨rfl, hb99⟩)
    go_ret
    exact ⟨rfl, bel_call hB1 hb99⟩
  | true =>
    have hcase : (a.k = b.k) ∨ (a.k ≠ b.k ∧ ((lessK a.k b.k = true ∧ lessK b.k a.k = false) ∨ (lessK a.k b.k = false ∧ lessK b.k a.k = true)) ∧ ((befI a b = true ∧ befI b a = false) ∨ (befI a b = false ∧ befI b a = true))) := by
      by_cases e : a.k = b.k
      · exact .inl e
      · refine .inr ⟨e, ?_, ?_⟩
        · rcases lessK_tri a.k b.k with h | h | h
          · exact absurd h e
          · exact .inl ⟨h, lessK_asym h⟩
          · exact .inr ⟨lessK_asym h, h⟩
        · cases h1 : befI a b with
          | true => exact .inl ⟨rfl, befI_swo.asym _ _ h1⟩
          | false =>
            cases h2 : befI b a with
            | true => exact .inr ⟨rfl, rfl⟩
            | false => exact absurd (befI_key h1 h2) e
    replace hcase := Lib.hid hcase
    go_enter Try.func10, Try.ntmps10
    go_wp2_with fail
    show Calls _ _ _ (((w.alloc (.cells (cI a).toArray 51)).alloc (.cells (cI b).toArray 51)).alloc (.cells (cI a ++ cI b).toArray 51)) _
    generalize (((w.alloc (.cells (cI a).toArray 51)).alloc (.cells (cI b).toArray 51)).alloc (.cells (cI a ++ cI b).toArray 51)) = W at *
    refine (light15_any _ 2 2 [a, b] W hR0).mono ?_
    rintro e w1 ⟨rfl, hb1⟩
    have hT1 := TwoI.next _ hb1 hT0
    rw [hla]
    clear hT0 hR0 hb1 hla
    have c0 := fun s => TwoI.c0 (w := w) (a := a) (b := b) s
    have c1 := fun s => TwoI.c1 (w := w) (a := a) (b := b) s
    have k0 := fun s => TwoI.k0 (w := w) (a := a) (b := b) s
    have k1 := fun s => TwoI.k1 (w := w) (a := a) (b := b) s
    obtain ⟨β, hβ⟩ : ∃ x, Hid (befI a b = x) := ⟨_, rfl⟩
    obtain ⟨lam, hlam⟩ : ∃ x, Hid (lessK a.k b.k = x) := ⟨_, rfl⟩
    cases β <;> cases lam
    all_goals
      go_wp2_with fail
      refine wp_region_class (TwoI w a b) (by kernel_rfl) (by kernel_rfl) hT1.drew (fun hne => ?_)
      clear hT1
      repeat (go_big_quiet_step (first
        | (go_at_call 37; exact cls_next TwoI.next (lit_b hβ.out (before_any _ _ _ l1 l2)))
        | (go_at_call 38; exact cls_next TwoI.next (lit_b hβ.out (refBefore_any _ _ _ l1 l2)))
        | (go_at_call 39; exact cls_next TwoI.next (lit_b hlam.out (less_any _ _ _)))
        | (go_at_call 40; exact cls_next TwoI.next (lit_b hlam.out (refLess_any _ _ _)))))
      refine wpQuiet_nil ?_
      intro w' hw'
      obtain ⟨s, rfl⟩ := hw'
      have hT2 := s.ok
      generalize s.w = w2 at *
      clear s
      go_wp2_with fail
      rcases hcase.out with he | ⟨he, hk, hbf⟩
      · have hd : decide (a.k = b.k) = true := decide_eq_true he
        clear he
        refine wp_region_class (TwoI w a b) (by kernel_rfl) (by kernel_rfl) hT2.drew (fun hne => ?_)
        clear hT2
        repeat (go_big_quiet_step (first
          | (go_at_call 33; exact cls_next TwoI.next (awake15 _))))
        refine wpQuiet_nil ?_
        intro w' hw'
        obtain ⟨s, rfl⟩ := hw'
        have hT3 := s.ok
        generalize s.w = w3 at *
        clear s c0 c1 k0 k1
        go_wp2
        go_ret
        exact ⟨rfl, hT3.2⟩
      · have hd : decide (a.k = b.k) = false := decide_eq_false he
        have hl2 : lessK b.k a.k = !(lessK a.k b.k) := by rcases hk with ⟨h1, h2⟩ | ⟨h1, h2⟩ <;> rw [h1, h2] <;> rfl
        have hb2 : befI b a = !(befI a b) := by rcases hbf with ⟨h1, h2⟩ | ⟨h1, h2⟩ <;> rw [h1, h2] <;> rfl
        rw [hlam.out] at hl2
        rw [hβ.out] at hb2
        simp only [Bool.not_true, Bool.not_false] at hl2 hb2
        replace hl2 := Lib.hid hl2
        replace hb2 := Lib.hid hb2
        clear he hk hbf
        refine wp_region_class (TwoI w a b) (by kernel_rfl) (by kernel_rfl) hT2.drew (fun hne => ?_)
        clear hT2
        repeat (go_big_quiet_step (first
          | (go_at_call 37; first | exact cls_next TwoI.next (lit_b hβ.out (before_any a b _ l1 l2)) | exact cls_next TwoI.next (lit_b hb2.out (before_any b a _ l2 l1)))
          | (go_at_call 39; first | exact cls_next TwoI.next (lit_b hlam.out (less_any a.k b.k _)) | exact cls_next TwoI.next (lit_b hl2.out (less_any b.k a.k _)))
          | (go_at_call 33; exact cls_next TwoI.next (awake15 _))))
        refine wpQuiet_nil ?_
        intro w' hw'
        obtain ⟨s, rfl⟩ := hw'
        have hT3 := s.ok
        generalize s.w = w3 at *
        clear s c0 c1 k0 k1
        go_wp2
        go_ret
        exact ⟨rfl, hT3.2⟩
end Go.Proofs.Ytdefpphfbpkeaaa
