/-
  The walks of package ascii, second part: those that call one another, and those that make memory.
-/
import Derived.Test.YtgfoaopfdpclhaaAscii
namespace Go.Proofs.Ytgfoaopfdpclhaa
open Go.RowKit
set_option linter.unusedVariables false

/-- A text's size, in a slot. -/
def strSize : Value → Nat | .string t => t.size | _ => 0
theorem Try.info9 : (Try.prog.info? 9).map (fun i => (i.zero, i.size, i.bytes)) = some (some (.string ByteArray.empty), 1, 16) := by kernel_rfl
def lowerL (l : List UInt8) : List UInt8 := l.map lowC
theorem lowerL_eq_iff {a b : List UInt8} (h : a.length = b.length) : lowerL a = lowerL b ↔ ∀ j, j < a.length → lowC (a.getD j 0) = lowC (b.getD j 0) := by
  unfold lowerL
  constructor
  · intro e j hj
    have := congrArg (fun l => l[j]?) e
    simp only [List.getElem?_map] at this
    rw [List.getElem?_eq_getElem hj, List.getElem?_eq_getElem (by omega : j < b.length)] at this
    rw [List.getD_eq_getElem?_getD, List.getD_eq_getElem?_getD, List.getElem?_eq_getElem hj, List.getElem?_eq_getElem (by omega : j < b.length)]
    simpa using this
  · intro e
    apply List.ext_getElem
    · simpa using h
    · intro j h1 h2
      have hj : j < a.length := by simpa using h1
      have := e j hj
      rw [List.getD_eq_getElem?_getD, List.getD_eq_getElem?_getD, List.getElem?_eq_getElem hj, List.getElem?_eq_getElem (by omega : j < b.length)] at this
      simpa using this

theorem cut_some {c : UInt8} {l : List UInt8} {p : List UInt8 × List UInt8} (h : cutL l c = some p) :
    p.1.length < l.length ∧ p.1 = l.take p.1.length ∧ p.2 = l.drop (p.1.length + 1) ∧ l = p.1 ++ c :: p.2 ∧ c ∉ p.1 := by
  induction l generalizing p with
  | nil => simp [cutL] at h
  | cons x r ih =>
    unfold cutL at h
    by_cases hx : (x == c) = true
    · rw [if_pos hx] at h
      injection h with h
      subst h
      have : x = c := by simpa using hx
      subst this
      simp
    · rw [if_neg hx] at h
      cases hr : cutL r c with
      | none => rw [hr] at h; simp at h
      | some q =>
        rw [hr] at h
        simp only [Option.map_some, Option.some.injEq] at h
        subst h
        obtain ⟨h1, h2, h3, h4, h5⟩ := ih hr
        refine ⟨by simp; omega, by simp only [List.length_cons, List.take_succ_cons]; rw [← h2], by simp only [List.length_cons, List.drop_succ_cons]; exact h3, by simp only [List.cons_append]; rw [← h4], ?_⟩
        simp only [List.mem_cons, not_or]
        exact ⟨fun e => hx (by simp [e]), h5⟩
theorem cut_none_iff {c : UInt8} {l : List UInt8} : cutL l c = none ↔ c ∉ l := by
  induction l with
  | nil => simp [cutL]
  | cons x r ih =>
    unfold cutL
    by_cases hx : (x == c) = true
    · rw [if_pos hx]
      have : x = c := by simpa using hx
      simp [this]
    · rw [if_neg hx]
      simp only [Option.map_eq_none_iff, ih, List.mem_cons, not_or]
      exact ⟨fun h => ⟨fun e => hx (by simp [e]), h⟩, fun h => h.2⟩

set_option maxHeartbeats 400000 in
theorem cut_any_none (s : ByteArray) (c : UInt8) (w : World) (hs : s.size ≤ maxLen) (h : cutL s.toList c = none) :
    Calls Try.prog 41 #[.string s, .int .u8 c.toNat] w fun e w' => e = .returned (.tuple #[.string s, .string (S []), .bool false]) ∧ w = w' := by
  have hf : findL s.toList c = -1 := by unfold findL; rw [h]
  clear h
  go_enter Try.func41, Try.ntmps41
  go_wp2_with (go_at_call 64; refine (find_any _ _ _ hs).mono ?_; rintro e w' ⟨rfl, rfl⟩)
  go_ret3
  exact ⟨rfl, rfl⟩

set_option maxHeartbeats 400000 in
theorem cut_any_some (s : ByteArray) (c : UInt8) (w : World) (hs : s.size ≤ maxLen) (a b : List UInt8) (h : cutL s.toList c = some (a, b)) :
    Calls Try.prog 41 #[.string s, .int .u8 c.toNat] w fun e w' => e = .returned (.tuple #[.string (S a), .string (S b), .bool true]) ∧ Below w.heap.size w w' := by
  have hs' := hs
  unfold maxLen at hs'
  have hf : findL s.toList c = a.length := by unfold findL; rw [h]
  have H := Lib.hid (cut_some h)
  have h1 : a.length < s.size := by rw [size_toList]; exact H.out.1
  have h1i : (a.length : Int) < s.size := by omega
  clear h
  go_enter Try.func41, Try.ntmps41
  go_wp2_with (go_at_call 64; refine (find_any _ _ _ hs).mono ?_; rintro e w' ⟨rfl, rfl⟩)
  have hw1 : IntKind.i64.wrap ((a.length : Int) + 1) = (a.length : Int) + 1 := IntWalk.i64_in _ (by omega)
  have hw2 : (0 : Int) ≤ (a.length : Int) + 1 := by omega
  have hw3 : (a.length : Int) + 1 ≤ s.size := by omega
  have hw4 : ((a.length : Int) + 1).toNat = a.length + 1 := by omega
  go_quiet (fail)
  go_wp2
  go_ret3
  refine ⟨?_, below_drews (Below.refl _ _) _⟩
  show Ending.returned (.tuple #[.string (s.extract 0 a.length), .string (s.extract (a.length + 1) s.size), .bool true]) = _
  rw [extract_to, extract_from, ← H.out.2.1, ← H.out.2.2.1]

/-- A text's parts about a byte. -/
def splitL (l : List UInt8) (c : UInt8) : List (List UInt8) :=
  match l with
  | [] => [[]]
  | x :: r => if x == c then [] :: splitL r c else match splitL r c with
    | [] => [[x]]
    | h :: t => (x :: h) :: t
theorem split_ne (l : List UInt8) (c : UInt8) : splitL l c ≠ [] := by
  cases l with
  | nil => simp [splitL]
  | cons x r =>
    unfold splitL
    split
    · simp
    · split <;> simp
theorem split_hit {x c : UInt8} (r : List UInt8) (h : (x == c) = true) : splitL (x :: r) c = [] :: splitL r c := by rw [splitL, if_pos h]
theorem split_miss {x c : UInt8} (r : List UInt8) (h : ¬ (x == c) = true) : splitL (x :: r) c = match splitL r c with
    | [] => [[x]]
    | h :: t => (x :: h) :: t := by rw [splitL, if_neg h]
theorem split_cut (l : List UInt8) (c : UInt8) : splitL l c = match cutL l c with | none => [l] | some p => p.1 :: splitL p.2 c := by
  induction l with
  | nil => rfl
  | cons x r ih =>
    by_cases hx : (x == c) = true
    · rw [split_hit r hx, cutL, if_pos hx]
    · rw [split_miss r hx, cutL, if_neg hx, ih]
      cases cutL r c with
      | none => rfl
      | some p => rfl
theorem split_len (l : List UInt8) (c : UInt8) : (splitL l c).length ≤ l.length + 1 := by
  induction l with
  | nil => simp [splitL]
  | cons x r ih =>
    unfold splitL
    split
    · simp; omega
    · split <;> simp_all; omega

theorem split_part (l : List UInt8) (c : UInt8) : ∀ x ∈ splitL l c, x.length ≤ l.length := by
  induction l with
  | nil => simp [splitL]
  | cons x r ih =>
    intro y hy
    by_cases hx : (x == c) = true
    · rw [split_hit r hx] at hy
      rcases List.mem_cons.1 hy with h | h
      · subst h; simp
      · have := ih y h; simp; omega
    · rw [split_miss r hx] at hy
      cases hr : splitL r c with
      | nil => exact absurd hr (split_ne r c)
      | cons h t =>
        rw [hr] at hy ih
        rcases List.mem_cons.1 hy with h' | h'
        · subst h'; have := ih h (by simp); simp; omega
        · have := ih y (by simp [h']); simp; omega

set_option maxHeartbeats 1000000 in
theorem split_any (s : ByteArray) (c : UInt8) (w : World) (hs : s.size ≤ 4294967296) :
    Calls Try.prog 30 #[.string s, .int .u8 c.toNat] w fun e w' => ∃ A cp, e = .returned (.slice A (splitL s.toList c).length cp) ∧
      w'.ownsRow w.heap.size 9 1 (.slice A (splitL s.toList c).length cp) (splitL s.toList c).length ((splitL s.toList c).map strV) ∧ Below w.heap.size w w' := by
  obtain ⟨i0, hi, hz0, hz1, hz2⟩ := info_parts Try.info9
  have hl := split_len s.toList c
  rw [← size_toList] at hl
  go_enter Try.func30, Try.ntmps30
  go_wp2
  go_loopw [0, 5] (fun p v wr => ∃ (t : ByteArray) (acc : List (List UInt8)), p = .string t ∧ t.size ≤ s.size ∧ wr.ownsRow w.heap.size 9 1 v acc.length (acc.map strV) ∧ Below w.heap.size w wr ∧ w.heap.size ≤ wr.heap.size ∧ Hid (splitL s.toList c = acc ++ splitL t.toList c))
    (fun p _ _ => strSize p)
  case atStart => exact ⟨s, [], rfl, Nat.le_refl _, World.ownsRow_nil _ _ _ _, Below.refl _ _, Nat.le_refl _, rfl⟩
  case round =>
    obtain ⟨t, acc, rfl, ht, hown, hbel, hsz, hch⟩ := hrel
    have htm : t.size ≤ maxLen := by unfold maxLen; omega
    have hacc : acc.length + 1 ≤ s.size + 1 := by
      have h1 := congrArg List.length hch.out
      have h2 := List.length_pos_iff.2 (split_ne t.toList c)
      simp at h1
      omega
    cases hcut : cutL t.toList c with
    | none =>
      have hch2 := Lib.hid (show splitL s.toList c = acc ++ [t.toList] by rw [hch.out, split_cut, hcut])
      have H := Lib.hid hcut
      clear hcut hch
      go_wp2_with (first
        | (go_at_call 41; refine (cut_any_none _ _ _ htm H.out).mono ?_; rintro e w' ⟨rfl, rfl⟩)
        | (at_builtin; refine wpList_push rfl _ _ 54 rfl w.heap.size 9 i0 (.string ByteArray.empty) 1 16 Try.underlying54 hi hz0 hz1 hz2 rfl (by decide) _ _ _ rfl hown _ _ rfl rfl rfl ?c1 ?c2 ?c3 hsz hbel ?_))
      case c1 => exact rfl
      case c2 => unfold maxLen; omega
      case c3 => omega
      intro v' w' hown' hg hbel' hsz'
      go_wp2
      go_ret
      rw [hch2.out, show acc.length + 1 = (acc ++ [t.toList]).length by simp] at *
      obtain ⟨A, cp, rfl⟩ := own_form hown'
      refine ⟨A, cp, rfl, ?_, hbel'⟩
      rw [List.map_append]
      have : strV t.toList = .string t := by unfold strV; rw [S_of]
      simp only [List.map_cons, List.map_nil, this]
      exact hown'
    | some p =>
      obtain ⟨a, b⟩ := p
      have hch2 := Lib.hid (show splitL s.toList c = (acc ++ [a]) ++ splitL b c by rw [hch.out, split_cut, hcut]; simp)
      have hlt := (cut_some hcut).1
      have hb := congrArg List.length (cut_some hcut).2.2.1
      simp only [List.length_drop] at hb hlt
      rw [← size_toList] at hb hlt
      have hb2 : b.length < t.size := by omega
      have H := Lib.hid hcut
      clear hcut hch hb hlt
      go_wp2_with fail
      refine (cut_any_some _ _ _ htm a b H.out).mono ?_
      rintro e w1 ⟨rfl, hb1⟩
      have hown1 := own_below hown hb1
      have hbel1 := bel_onto hbel hb1 hsz
      have hsz1 : w.heap.size ≤ w1.heap.size := by have := hb1.size; omega
      go_wp2_with (first
        | (at_builtin; refine wpList_push rfl _ _ 54 rfl w.heap.size 9 i0 (.string ByteArray.empty) 1 16 Try.underlying54 hi hz0 hz1 hz2 rfl (by decide) _ _ _ rfl hown1 _ _ rfl rfl rfl ?c1 ?c2 ?c3 hsz1 hbel1 ?_))
      case c1 => exact rfl
      case c2 => unfold maxLen; omega
      case c3 => omega
      intro v' w' hown' hg hbel' hsz'
      go_wp2
      go_roundw
      case rel =>
        refine ⟨S b, acc ++ [a], rfl, by rw [S_size]; omega, ?_, hbel', hsz', by show _ = _; rw [S_toList]; exact hch2.out⟩
        rw [List.map_append, List.length_append]
        exact hown'
      case measure => simpa [strSize] using hb2
end Go.Proofs.Ytgfoaopfdpclhaa
