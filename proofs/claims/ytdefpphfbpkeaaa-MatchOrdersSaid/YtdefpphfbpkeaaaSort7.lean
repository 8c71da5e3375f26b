/-
  The walks: a copy of a row; the program's sorting.
-/
import Derived.Test.YtdefpphfbpkeaaaSort6
import Derived.Test.YtdefpphfbpkeaaaApp
import Derived.Test.YtdefpphfbpkeaaaIns
import Derived.Test.YtdefpphfbpkeaaaDiff4
import Derived.Lib.SliceRun
namespace Go.Proofs.Ytdefpphfbpkeaaa
open Go.RowKit
set_option linter.unusedVariables false

theorem rowI_own {w : World} {B : Nat} {A : Option Addr} {n c : Nat} {l : List It} (h : w.ownsRow B 51 11 (.slice A n c) n (l.flatMap cI)) (hn : 0 < n) : ∃ g, A = some ⟨g, 0, none⟩ ∧ B ≤ g ∧ RowI w g l := by
  have hl := (Rd.of_own h).rows (sz := 11) (f := cI) (fun q => rfl) (by decide)
  obtain ⟨b, off, hA, hb, hx⟩ := (Rd.of_own h).items (k := 0) (by omega)
  rcases h.2 with ⟨h1, _⟩ | ⟨g, cap, cur, h1, hB, hg, hnc, hcm, hcs, htake⟩
  · have : n = 0 := by simpa using congrArg (fun v => match v with | Value.slice _ n _ => n | _ => 0) h1
    omega
  · have e1 : A = some ⟨g, 0, none⟩ := by injection h1
    have e2 : b = g ∧ off = 0 := by rw [hA] at e1; simpa using e1
    obtain ⟨rfl, rfl⟩ := e2
    refine ⟨b, e1, hB, fun j hj => ⟨?_, ?_⟩, fun j hj => by have := (hx j hj).1; rwa [Nat.zero_add] at this⟩
    · obtain ⟨i, v, hv⟩ : ∃ (i : Nat) (v : It), i < l.length ∧ i * 11 ≤ j ∧ j < i * 11 + 11 := ⟨j / 11, l[0], by omega, by omega, by omega⟩
      have := rdAt_range (f := cI) (hx i hv.1).1 (j - i * 11) _ (List.getElem?_eq_getElem (by rw [cI_len]; omega))
      rw [show 0 + i * 11 + (j - i * 11) = 0 + j by omega] at this
      rw [this]; rfl
    · exact Blk.free (t := 51) (cs := cur) hg _
@[go_sem] theorem run_nilI (w : World) (a : Option Addr) (n c : Nat) : (binOp .eql 22 (.slice a n c) (.slice none 0 0)).run Try.prog w = .ok (.bool a.isNone) w := Lib.run_eql_slice_nil w _ _ a n c 0 0 Try.underlying22
set_option maxHeartbeats 1000000 in
theorem clone_any (A : Option Addr) (n c : Nat) (l : List It) (w : World) (h : Rd w 11 (.slice A n c) n (l.flatMap cI)) (hn : n ≤ 100000) :
    Calls Try.prog 54 #[.slice A n c] w fun e w' => ∃ A' c', e = .returned (.slice A' n c') ∧ w'.ownsRow w.heap.size 51 11 (.slice A' n c') n (l.flatMap cI) ∧ Below w.heap.size w w' := by
  obtain ⟨i0, hi, hz0, hz1, hz2⟩ := info_parts Try.infoI
  have hl := h.rows (sz := 11) (f := cI) (fun q => rfl) (by decide)
  have hcap := h.cap
  cases A with
  | none =>
    have hn0 : n = 0 := by
      rcases Nat.eq_zero_or_pos n with e | e
      · exact e
      · obtain ⟨b, off, hA, _⟩ := h.at_ e; cases hA
    subst hn0
    have e0 : l = [] := List.eq_nil_of_length_eq_zero hl
    subst e0
    go_enter Try.func54, Try.ntmps54
    go_wp2
    go_ret
    exact ⟨none, 0, rfl, World.ownsRow_nil _ _ _ _, Below.refl _ _⟩
  | some a =>
    unfold maxLen at hcap
    obtain ⟨hca, hcb⟩ := hcap
    go_enter Try.func54, Try.ntmps54
    have hB : Below w.heap.size w (w.alloc (Obj.cells #[] 51)) := bel_alloc (Below.refl _ _) _
    have hown0 : (w.alloc (Obj.cells #[] 51)).ownsRow w.heap.size 51 11 (.slice (some ⟨w.heap.size, 0, none⟩) 0 0) 0 [] := World.ownsRow_lit w #[] 0 (Nat.le_refl _) (by unfold maxLen; omega) rfl
    have hR := h.below hB
    go_wp2_with (at_builtin; refine wpList_more (W := w) _ rfl _ _ 22 rfl w.heap.size 51 i0 (vI (noneI k0)) 11 96 Try.underlying22 hi hz0 hz1 hz2 rfl (by decide) _ 0 _ rfl hown0 _ _ _ _ rfl hR (flat_one l) ?d1 ?d2 hB.size hB ?_)
    case d1 => unfold maxLen; omega
    case d2 => omega
    intro v' w2 ho2 hg2 hm2 hbel2 hsz2
    clear hown0 hR hB
    go_wp2
    go_ret
    obtain ⟨A3, c3, rfl⟩ := own_form ho2
    exact ⟨A3, c3, rfl, ho2, hbel2⟩
theorem stable_none (A : Option Addr) (c : Nat) (w : World) :
    Calls Try.prog 65 #[.slice A 0 c, .int .i64 0, fS] w fun e w' => e = .returned (.tuple #[]) ∧ w = w' := by
  have h0 := Lib.hid (isort_none A 0 c 0 w (by omega))
  go_enter Try.func65, Try.ntmps65
  go_wp2
  go_loopw [7, 8] (fun av bv wr => av = .int .i64 0 ∧ bv = .int .i64 20 ∧ w = wr) (fun _ _ _ => 0)
  case atStart => exact ⟨rfl, rfl, rfl⟩
  case round =>
    obtain ⟨rfl, rfl, rfl⟩ := hrel
    go_wp2_with fail
    refine h0.out.mono ?_
    rintro e w1 ⟨rfl, rfl⟩
    clear h0
    go_wp2
    go_loopw [6] (fun av wr => av = .int .i64 20 ∧ w = wr) (fun _ _ => 0)
    case atStart => exact ⟨rfl, rfl⟩
    case round =>
      obtain ⟨rfl, rfl⟩ := hrel
      go_wp2
      go_end0
      exact ⟨rfl, rfl⟩
/-- What sorting hands back. -/
def SortPost (l : List It) (w : World) (e : Ending) (w' : World) : Prop := ∃ A c R, e = .returned (.slice A l.length c) ∧ Rd w' 11 (.slice A l.length c) l.length (R.flatMap cI) ∧ Srt befI R ∧ StEq befI l R ∧ R.length = l.length ∧ Below w.heap.size w w'
theorem rowI_rd {w : World} {g n c : Nat} {R : List It} (h : RowI w g R) (hn : R.length = n) (h0 : 0 < n) (hc : n ≤ c) (hcm : c ≤ maxLen) : Rd w 11 (.slice (some ⟨g, 0, none⟩) n c) n (R.flatMap cI) := by
  subst hn
  refine ⟨cI_flat R, _, _, rfl, hc, hcm, .inr ⟨g, 0, rfl, h.lt h0, fun j hj => ?_⟩⟩
  rw [cI_flat] at hj
  have hi : j / 11 < R.length := by omega
  have h1 := rdAt_range (f := cI) (h.2 (j / 11) hi) (j - j / 11 * 11) _ (List.getElem?_eq_getElem (by rw [cI_len]; omega))
  rw [show j / 11 * 11 + (j - j / 11 * 11) = j by omega] at h1
  have h2 := flat_at (sz := 11) cI (fun _ => rfl) R hi (j := j - j / 11 * 11) (by omega)
  rw [show j / 11 * 11 + (j - j / 11 * 11) = j by omega] at h2
  rw [Nat.zero_add, h1, h2, List.getElem?_eq_getElem]
set_option maxHeartbeats 1000000 in
theorem sortStable_any (A : Option Addr) (c : Nat) (l : List It) (W w : World) (B : Nat) (h : w.ownsRow B 51 11 (.slice A l.length c) l.length (l.flatMap cI)) (hbel : Below B W w) (hs : B ≤ w.heap.size) (hn : l.length ≤ 100000) (hlim : Lim l) :
    Calls Try.prog 55 #[.slice A l.length c, fS] w fun e w' => ∃ R, e = .returned (.tuple #[]) ∧ Rd w' 11 (.slice A l.length c) l.length (R.flatMap cI) ∧ Srt befI R ∧ StEq befI l R ∧ R.length = l.length ∧ Below B W w' := by
  have hR := Rd.of_own h
  rcases Nat.eq_zero_or_pos l.length with e0 | e0
  · have e1 : l = [] := List.eq_nil_of_length_eq_zero e0
    subst e1
    have h0 := Lib.hid (stable_none A c w)
    go_enter Try.func55, Try.ntmps55
    go_wp2_with fail
    refine h0.out.mono ?_
    rintro e w1 ⟨rfl, rfl⟩
    clear h0
    go_wp2
    go_end0
    exact ⟨[], rfl, hR, List.Pairwise.nil, StEq.refl _, rfl, hbel⟩
  · obtain ⟨g, rfl, hB, hrow⟩ := rowI_own h e0
    have hcap := hR.cap
    have h0 := Lib.hid (stable_any g l.length c B W w l ⟨hrow, hbel, hs⟩ rfl hcap.1 hcap.2 hn hB hlim)
    clear h hrow
    have hcap' := hcap
    unfold maxLen at hcap'
    obtain ⟨hc1, hc2⟩ := hcap'
    clear hR
    go_enter Try.func55, Try.ntmps55
    go_wp2_with fail
    refine h0.out.mono ?_
    rintro e w1 ⟨R, rfl, h1, h2, h3, h4⟩
    clear h0
    replace h4 := Lib.hid h4
    rw [List.nil_append, List.append_nil] at h1
    go_wp2
    go_end0
    exact ⟨R, rfl, rowI_rd h1.1 h4.out e0 hcap.1 hcap.2, h2, h3, h4.out, h1.2.1⟩
set_option maxHeartbeats 1000000 in
theorem mSort_any (A : Option Addr) (n c : Nat) (l : List It) (w : World) (h : Rd w 11 (.slice A n c) n (l.flatMap cI)) (hn : n ≤ 100000) (hlim : Lim l) :
    Calls Try.prog 34 #[.slice A n c] w (SortPost l w) := by
  have hl := h.rows (sz := 11) (f := cI) (fun q => rfl) (by decide)
  subst hl
  have hcap := h.cap
  unfold maxLen at hcap
  obtain ⟨hca, hcb⟩ := hcap
  go_enter Try.func34, Try.ntmps34
  go_wp2_with fail
  refine (clone_any _ _ _ l _ h hn).mono ?_
  rintro e w1 ⟨A1, c1, rfl, ho1, hb1⟩
  have hs1 := hb1.size
  go_wp2_with fail
  refine (sortStable_any _ _ l w w1 w.heap.size ho1 hb1 hs1 hn hlim).mono ?_
  rintro e w2 ⟨R, rfl, h1, h2, h3, h4, h5⟩
  replace h4 := Lib.hid h4
  go_wp2
  go_ret
  exact ⟨A1, c1, R, rfl, h1, h2, h3, h4.out, h5⟩
end Go.Proofs.Ytdefpphfbpkeaaa
