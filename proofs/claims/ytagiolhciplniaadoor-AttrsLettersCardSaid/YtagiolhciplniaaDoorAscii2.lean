/-
  The walks of package ascii, second part: those that call one another, and those that make memory.
-/
import Derived.Test.YtagiolhciplniaaDoorAscii
namespace Go.Proofs.YtagiolhciplniaaDoor
open Go.RowKit
set_option linter.unusedVariables false

/-- A text's size, in a slot. -/
def strSize : Value → Nat | .string t => t.size | _ => 0
theorem Tryd.info9 : (Tryd.prog.info? 9).map (fun i => (i.zero, i.size, i.bytes)) = some (some (.string ByteArray.empty), 1, 16) := by kernel_rfl
def lowerL (l : List UInt8) : List UInt8 := l.map lowC
theorem lowerL_eq_iff {a b : List UInt8} (h : a.length = b.length) : lowerL a = lowerL b ↔ ∀ j, j < a.length → lowC (a.getD j 0) = lowC (b.getD j 0) := by
  unfold lowerL
  constructor
  · intro e j hj
    have := congrArg (fun l => l[j]?) e
    simp only [List.getElem?_map] at this
    rw [List.getElem?_eq_getElem hj, List.getElem?_eq_getElem (by omega : j < b.length)] at this
    rw [List.getD_eq_getElem?_getD, List.getD_eq_getElem?_getD, List.getElem?_eq_getElem hj, List.getElem?_eq_getElem (by omega : j < b.length)]
    simpa using this
  · intro e
    apply List.ext_getElem
    · simpa using h
    · intro j h1 h2
      have hj : j < a.length := by simpa using h1
      have := e j hj
      rw [List.getD_eq_getElem?_getD, List.getD_eq_getElem?_getD, List.getElem?_eq_getElem hj, List.getElem?_eq_getElem (by omega : j < b.length)] at this
      simpa using this

set_option maxHeartbeats 400000 in
theorem same_any (s t : ByteArray) (w : World) (hs : s.size ≤ maxLen) (ht : t.size ≤ maxLen) :
    Calls Tryd.prog 59 #[.string s, .string t] w fun e w' => e = .returned (.bool (lowerL s.toList == lowerL t.toList)) ∧ Below w.heap.size w w' := by
  unfold maxLen at hs ht
  have hsz := Lib.hid (size_toList s)
  have htz := Lib.hid (size_toList t)
  by_cases hne : s.size = t.size
  · have hne1 : ((s.size : Int) != t.size) = false := by rw [bne_eq_false_iff_eq]; omega
    have hle : t.size ≤ s.size := by omega
    have hle2 : s.size ≤ t.size := by omega
    have hE := Lib.hid hne
    clear hne
    have hiff := Lib.hid (lowerL_eq_iff (a := s.toList) (b := t.toList) (by rw [← hsz.out, ← htz.out, hE.out]))
    go_enter Tryd.func59, Tryd.ntmps59
    go_wp2
    go_loopw [13] (fun i wr => ∃ k : Nat, k ≤ s.size ∧ i = .int .i64 k ∧ Below w.heap.size w wr ∧ Hid (∀ j, j < k → lowC (s.toList.getD j 0) = lowC (t.toList.getD j 0))) (fun i _ => s.size - (intOf i).toNat)
    case atStart => exact ⟨0, Nat.zero_le _, rfl, Below.refl _ _, fun j hj => absurd hj (by omega)⟩
    case round =>
      obtain ⟨k, hk, rfl, hw, hall⟩ := hrel
      by_cases hlt : k < s.size
      · have hlt2 : k < t.size := by omega
        have hlti : (k : Int) < s.size := by omega
        have hlti2 : (k : Int) < t.size := by omega
        have hx := Lib.hid (get_l s k hlt)
        have hy := Lib.hid (get_l t k hlt2)
        go_wp2
        go_quiet ((first | (go_at_call 56; exact Calls.quiet_of_same ((lower_any _ _).mono fun _ _ h => ⟨h.1, h.2.symm⟩))))
        by_cases he : lowC s[k] = lowC t[k]
        · have he1 : (((lowC s[k]).toNat : Int) != (lowC t[k]).toNat) = false := by rw [he]; simp
          have hE2 := Lib.hid he
          clear he
          go_wp2
          go_roundw
          case rel => exact ⟨k + 1, by omega, by go_num, below_drews hw _, all_step hall.out (by rw [← hx.out, ← hy.out]; exact hE2.out)⟩
          case measure => simp [intOf]; omega
        · have he1 : (((lowC s[k]).toNat : Int) != (lowC t[k]).toNat) = true := by
            rw [bne_iff_ne]; intro e; exact he (UInt8.toNat_inj.1 (by omega))
          have hE2 := Lib.hid he
          clear he
          go_wp2
          go_ret
          refine ⟨ret_bool (Eq.symm ?_), below_drews hw _⟩
          rw [beq_eq_false_iff_ne]
          intro e
          have := hiff.out.1 e k (by rw [← hsz.out]; exact hlt)
          rw [← hx.out, ← hy.out] at this
          exact hE2.out this
      · obtain rfl : k = s.size := by omega
        go_wp2
        go_ret
        exact ⟨ret_bool (by rw [hiff.out.2 (by rw [← hsz.out]; exact hall.out)]; simp), hw⟩
  · have hne1 : ((s.size : Int) != t.size) = true := by rw [bne_iff_ne]; omega
    go_enter Tryd.func59, Tryd.ntmps59
    go_wp2
    go_ret
    refine ⟨ret_bool (Eq.symm ?_), Below.refl _ _⟩
    rw [beq_eq_false_iff_ne]
    intro e
    have := congrArg List.length e
    simp [lowerL] at this
    rw [← size_toList, ← size_toList] at this
    exact hne this

theorem cut_some {c : UInt8} {l : List UInt8} {p : List UInt8 × List UInt8} (h : cutL l c = some p) :
    p.1.length < l.length ∧ p.1 = l.take p.1.length ∧ p.2 = l.drop (p.1.length + 1) ∧ l = p.1 ++ c :: p.2 ∧ c ∉ p.1 := by
  induction l generalizing p with
  | nil => simp [cutL] at h
  | cons x r ih =>
    unfold cutL at h
    by_cases hx : (x == c) = true
    · rw [if_pos hx] at h
      injection h with h
      subst h
      have : x = c := by simpa using hx
      subst this
      simp
    · rw [if_neg hx] at h
      cases hr : cutL r c with
      | none => rw [hr] at h; simp at h
      | some q =>
        rw [hr] at h
        simp only [Option.map_some, Option.some.injEq] at h
        subst h
        obtain ⟨h1, h2, h3, h4, h5⟩ := ih hr
        refine ⟨by simp; omega, by simp only [List.length_cons, List.take_succ_cons]; rw [← h2], by simp only [List.length_cons, List.drop_succ_cons]; exact h3, by simp only [List.cons_append]; rw [← h4], ?_⟩
        simp only [List.mem_cons, not_or]
        exact ⟨fun e => hx (by simp [e]), h5⟩
theorem cut_none_iff {c : UInt8} {l : List UInt8} : cutL l c = none ↔ c ∉ l := by
  induction l with
  | nil => simp [cutL]
  | cons x r ih =>
    unfold cutL
    by_cases hx : (x == c) = true
    · rw [if_pos hx]
      have : x = c := by simpa using hx
      simp [this]
    · rw [if_neg hx]
      simp only [Option.map_eq_none_iff, ih, List.mem_cons, not_or]
      exact ⟨fun h => ⟨fun e => hx (by simp [e]), h⟩, fun h => h.2⟩

/-- A text's parts about a byte. -/
def splitL (l : List UInt8) (c : UInt8) : List (List UInt8) :=
  match l with
  | [] => [[]]
  | x :: r => if x == c then [] :: splitL r c else match splitL r c with
    | [] => [[x]]
    | h :: t => (x :: h) :: t
theorem split_ne (l : List UInt8) (c : UInt8) : splitL l c ≠ [] := by
  cases l with
  | nil => simp [splitL]
  | cons x r =>
    unfold splitL
    split
    · simp
    · split <;> simp
theorem split_hit {x c : UInt8} (r : List UInt8) (h : (x == c) = true) : splitL (x :: r) c = [] :: splitL r c := by rw [splitL, if_pos h]
theorem split_miss {x c : UInt8} (r : List UInt8) (h : ¬ (x == c) = true) : splitL (x :: r) c = match splitL r c with
    | [] => [[x]]
    | h :: t => (x :: h) :: t := by rw [splitL, if_neg h]
theorem split_cut (l : List UInt8) (c : UInt8) : splitL l c = match cutL l c with | none => [l] | some p => p.1 :: splitL p.2 c := by
  induction l with
  | nil => rfl
  | cons x r ih =>
    by_cases hx : (x == c) = true
    · rw [split_hit r hx, cutL, if_pos hx]
    · rw [split_miss r hx, cutL, if_neg hx, ih]
      cases cutL r c with
      | none => rfl
      | some p => rfl
theorem split_len (l : List UInt8) (c : UInt8) : (splitL l c).length ≤ l.length + 1 := by
  induction l with
  | nil => simp [splitL]
  | cons x r ih =>
    unfold splitL
    split
    · simp; omega
    · split <;> simp_all; omega

theorem split_part (l : List UInt8) (c : UInt8) : ∀ x ∈ splitL l c, x.length ≤ l.length := by
  induction l with
  | nil => simp [splitL]
  | cons x r ih =>
    intro y hy
    by_cases hx : (x == c) = true
    · rw [split_hit r hx] at hy
      rcases List.mem_cons.1 hy with h | h
      · subst h; simp
      · have := ih y h; simp; omega
    · rw [split_miss r hx] at hy
      cases hr : splitL r c with
      | nil => exact absurd hr (split_ne r c)
      | cons h t =>
        rw [hr] at hy ih
        rcases List.mem_cons.1 hy with h' | h'
        · subst h'; have := ih h (by simp); simp; omega
        · have := ih y (by simp [h']); simp; omega

end Go.Proofs.YtagiolhciplniaaDoor
