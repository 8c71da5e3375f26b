/-
  The walks of package ascii, third part: the reference's parts, trimming, numbers.
-/
import Derived.Test.YtgfoaopfdpclhaaAscii2
namespace Go.Proofs.Ytgfoaopfdpclhaa
open Go.RowKit
set_option linter.unusedVariables false

theorem drop_take_getD (l : List UInt8) (a j : Nat) : (l.drop a).getD j 0 = l.getD (a + j) 0 := by
  rw [List.getD_eq_getElem?_getD, List.getD_eq_getElem?_getD, List.getElem?_drop]

theorem split_at {c : UInt8} {l : List UInt8} {a k : Nat} (ha : a ≤ k) (hk : k < l.length) (h : ∀ j, j < k → a ≤ j → (l.getD j 0 == c) = false) (hh : (l.getD k 0 == c) = true) :
    splitL (l.drop a) c = ((l.drop a).take (k - a)) :: splitL (l.drop (k + 1)) c := by
  have h1 := cut_hit c (l.drop a) (k - a) (fun j hj => by rw [drop_take_getD]; exact h (a + j) (by omega) (by omega)) (by rw [drop_take_getD, show a + (k - a) = k by omega]; exact hh) (by simp; omega)
  rw [split_cut, h1]
  simp only [List.drop_drop]
  rw [show a + (k - a + 1) = k + 1 by omega]
theorem split_end {c : UInt8} {l : List UInt8} {a : Nat} (h : ∀ j, j < l.length → a ≤ j → (l.getD j 0 == c) = false) : splitL (l.drop a) c = [l.drop a] := by
  have h1 := cut_none c (l.drop a) (fun j hj => by rw [drop_take_getD]; exact h (a + j) (by simp at hj; omega) (by omega))
  rw [split_cut, h1]

set_option maxHeartbeats 1000000 in
theorem refSplit_any (s : ByteArray) (c : UInt8) (w : World) (hs : s.size ≤ 4294967296) :
    Calls Try.prog 34 #[.string s, .int .u8 c.toNat] w fun e w' => ∃ A cp, e = .returned (.slice A (splitL s.toList c).length cp) ∧
      w'.ownsRow w.heap.size 9 1 (.slice A (splitL s.toList c).length cp) (splitL s.toList c).length ((splitL s.toList c).map strV) ∧ Below w.heap.size w w' := by
  obtain ⟨i0, hi, hz0, hz1, hz2⟩ := info_parts Try.info9
  have hl := split_len s.toList c
  rw [← size_toList] at hl
  have hsz0 := Lib.hid (size_toList s)
  go_enter Try.func34, Try.ntmps34
  go_wp2
  go_loopw [5, 6, 7] (fun v fr i wr => ∃ (a k : Nat) (acc : List (List UInt8)), i = .int .i64 k ∧ fr = .int .i64 a ∧ a ≤ k ∧ k ≤ s.size ∧ wr.ownsRow w.heap.size 9 1 v acc.length (acc.map strV) ∧ Below w.heap.size w wr ∧ w.heap.size ≤ wr.heap.size ∧ Hid (splitL s.toList c = acc ++ splitL (s.toList.drop a) c) ∧ Hid (∀ j, j < k → a ≤ j → (s.toList.getD j 0 == c) = false))
    (fun _ _ i _ => s.size - (intOf i).toNat)
  case atStart => exact ⟨0, 0, [], rfl, rfl, Nat.le_refl _, Nat.zero_le _, World.ownsRow_lit w #[] 0 (Nat.le_refl _) (by unfold maxLen; omega) rfl, (Below.refl _ _).alloc (Nat.le_refl _) _, by simp, rfl, fun j hj => absurd hj (by omega)⟩
  case round =>
    obtain ⟨a, k, acc, rfl, rfl, hak, hk, hown, hbel, hsz, hch, hall⟩ := hrel
    have hacc : acc.length + 1 ≤ s.size + 1 := by
      have h1 := congrArg List.length hch.out
      have h2 := List.length_pos_iff.2 (split_ne (s.toList.drop a) c)
      simp at h1
      omega
    have haki : (a : Int) ≤ k := by omega
    by_cases hlt : k < s.size
    · have hlti : (k : Int) ≤ s.size := by omega
      have hx := Lib.hid (get_l s k hlt)
      by_cases h : (s[k] == c) = true
      · have h1 : (((s[k].toNat : Int)) == c.toNat) = true := by rw [u8_beq]; exact h
        have hch2 := Lib.hid (show splitL s.toList c = (acc ++ [(s.extract a k).toList]) ++ splitL (s.toList.drop (k + 1)) c by
          rw [hch.out, split_at hak (by rw [← hsz0.out]; exact hlt) hall.out (by rw [← hx.out]; exact h), extract_l]; simp)
        clear h
        go_wp2_with (at_builtin; refine wpList_push rfl _ _ 54 rfl w.heap.size 9 i0 (.string ByteArray.empty) 1 16 Try.underlying54 hi hz0 hz1 hz2 rfl (by decide) _ _ _ rfl hown _ _ rfl rfl rfl ?c1 ?c2 ?c3 hsz hbel ?_)
        case c1 => exact rfl
        case c2 => unfold maxLen; omega
        case c3 => omega
        intro v' w' hown' hg hbel' hsz'
        go_wp2
        go_roundw
        case rel =>
          refine ⟨k + 1, k + 1, acc ++ [(s.extract a k).toList], by go_num, by go_num, Nat.le_refl _, by omega, ?_, hbel', hsz', hch2.out, fun j hj hj' => absurd hj (by omega)⟩
          rw [List.map_append, List.length_append]
          have : strV (s.extract a k).toList = .string (s.extract a k) := by unfold strV; rw [S_of]
          simp only [List.map_cons, List.map_nil, this]
          exact hown'
        case measure => simp [intOf]; omega
      · have h1 : (((s[k].toNat : Int)) == c.toNat) = false := by rw [u8_beq]; simpa using h
        have hstep := Lib.hid (show ∀ j, j < k + 1 → a ≤ j → (s.toList.getD j 0 == c) = false from all_step hall.out (fun _ => by rw [← hx.out]; simpa using h))
        clear h
        go_wp2
        go_roundw
        case rel => exact ⟨a, k + 1, acc, by go_num, rfl, by omega, by omega, hown, hbel, hsz, hch, hstep⟩
        case measure => simp [intOf]; omega
    · obtain rfl : k = s.size := by omega
      have hch2 := Lib.hid (show splitL s.toList c = acc ++ [s.toList.drop a] by rw [hch.out, split_end (by rw [← hsz0.out]; exact hall.out)])
      go_wp2_with (at_builtin; refine wpList_push rfl _ _ 54 rfl w.heap.size 9 i0 (.string ByteArray.empty) 1 16 Try.underlying54 hi hz0 hz1 hz2 rfl (by decide) _ _ _ rfl hown _ _ rfl rfl rfl ?c1 ?c2 ?c3 hsz hbel ?_)
      case c1 => exact rfl
      case c2 => unfold maxLen; omega
      case c3 => omega
      intro v' w' hown' hg hbel' hsz'
      go_wp2
      go_ret
      rw [hch2.out, show acc.length + 1 = (acc ++ [s.toList.drop a]).length by simp] at *
      obtain ⟨A, cp, rfl⟩ := own_form hown'
      refine ⟨A, cp, rfl, ?_, hbel'⟩
      rw [List.map_append]
      have : strV (s.toList.drop a) = .string (s.extract a s.size) := by unfold strV; rw [extract_from]
      simp only [List.map_cons, List.map_nil, this]
      exact hown'

def ltrim (l : List UInt8) : List UInt8 := l.dropWhile blankB
def rtrim (l : List UInt8) : List UInt8 := (l.reverse.dropWhile blankB).reverse
def trimL (l : List UInt8) : List UInt8 := rtrim (ltrim l)
theorem ltrim_step {l : List UInt8} (h0 : 0 < l.length) (h : blankB (l.getD 0 0) = true) : ltrim l = ltrim (l.drop 1) := by
  cases l with
  | nil => simp at h0
  | cons x r => unfold ltrim; rw [List.dropWhile_cons_of_pos (by simpa using h)]; rfl
theorem ltrim_end {l : List UInt8} (h : l.length = 0 ∨ blankB (l.getD 0 0) = false) : ltrim l = l := by
  cases l with
  | nil => rfl
  | cons x r =>
    rcases h with h | h
    · simp at h
    · unfold ltrim; rw [List.dropWhile_cons_of_neg (by simpa using h)]
theorem rtrim_step {l : List UInt8} (h0 : 0 < l.length) (h : blankB (l.getD (l.length - 1) 0) = true) : rtrim l = rtrim (l.take (l.length - 1)) := by
  have e : l = l.take (l.length - 1) ++ [l.getD (l.length - 1) 0] := by
    have := take_succ_getD l (l.length - 1) (by omega)
    rw [show l.length - 1 + 1 = l.length by omega, List.take_length] at this
    exact this
  unfold rtrim
  conv => lhs; rw [e]
  rw [List.reverse_append, List.reverse_singleton, List.singleton_append, List.dropWhile_cons_of_pos (by simpa using h)]
theorem rtrim_end {l : List UInt8} (h : l.length = 0 ∨ blankB (l.getD (l.length - 1) 0) = false) : rtrim l = l := by
  rcases h with h | h
  · have : l = [] := List.eq_nil_of_length_eq_zero h
    subst this; rfl
  · by_cases h0 : l.length = 0
    · have : l = [] := List.eq_nil_of_length_eq_zero h0
      subst this; rfl
    · have e : l = l.take (l.length - 1) ++ [l.getD (l.length - 1) 0] := by
        have := take_succ_getD l (l.length - 1) (by omega)
        rw [show l.length - 1 + 1 = l.length by omega, List.take_length] at this
        exact this
      unfold rtrim
      have : l.reverse = l.getD (l.length - 1) 0 :: (l.take (l.length - 1)).reverse := by
        conv => lhs; rw [e]
        rw [List.reverse_append]; rfl
      rw [this, List.dropWhile_cons_of_neg (by simpa using h), ← this, List.reverse_reverse]

theorem isEmpty_size (s : ByteArray) : s.toList.isEmpty = decide (s.size = 0) := by
  rw [size_toList]
  cases s.toList <;> simp

set_option maxHeartbeats 1000000 in
theorem trim_any (s : ByteArray) (w : World) (hs : s.size ≤ maxLen) :
    Calls Try.prog 68 #[.string s] w fun e w' => e = .returned (.string (S (trimL s.toList))) ∧ w = w' := by
  unfold maxLen at hs
  go_enter Try.func68, Try.ntmps68
  go_wp2
  go_loop [0] (fun p => ∃ (t : ByteArray), p = .string t ∧ t.size ≤ s.size ∧ Hid (ltrim s.toList = ltrim t.toList)) (fun p => strSize p)
  case atStart => exact ⟨s, rfl, Nat.le_refl _, rfl⟩
  case round =>
    obtain ⟨t, rfl, ht, hch⟩ := hrel
    have ht0 := Lib.hid (isEmpty_size t)
    have htz := Lib.hid (size_toList t)
    by_cases hgo : 0 < t.size ∧ blankB (t.toList.getD 0 0) = true
    · obtain ⟨hpos, hb⟩ := hgo
      have he : t.toList.isEmpty = false := by rw [ht0.out]; exact decide_eq_false (by omega)
      have hposi : (0 : Int) < t.size := by omega
      have hposi1 : (1 : Int) ≤ t.size := by omega
      have hb2 : blankB t[0] = true := by rw [get_l]; exact hb
      have hst := Lib.hid (ltrim_step (by rw [← htz.out]; exact hpos) hb)
      clear hb
      go_wp2_with (go_at_call 86; refine (blank_any _ _).mono ?_; rintro e w' ⟨rfl, rfl⟩)
      go_round
      case rel => exact ⟨t.extract 1 t.size, rfl, by rw [extract_from, S_size, List.length_drop, ← htz.out]; omega, by show _ = _; rw [hch.out, hst.out, extract_from, S_toList]⟩
      case measure => simp only [strSize]; rw [extract_from, S_size, List.length_drop, ← htz.out]; omega
    · have hend := Lib.hid (show ltrim t.toList = t.toList from ltrim_end (by
        rw [← htz.out]
        by_cases h0 : t.size = 0
        · exact Or.inl h0
        · exact Or.inr (by
            cases hb : blankB (t.toList.getD 0 0)
            · rfl
            · exact absurd ⟨by omega, hb⟩ hgo)))
      have hch2 := Lib.hid (show trimL s.toList = rtrim t.toList by unfold trimL; rw [hch.out, hend.out])
      have hcase : (t.toList.isEmpty = true) ∨ (t.toList.isEmpty = false ∧ (0 : Int) < t.size ∧ ∃ h : 0 < t.size, blankB t[0] = false) := by
        by_cases h0 : t.size = 0
        · exact Or.inl (by rw [ht0.out]; simpa using h0)
        · refine Or.inr ⟨by rw [ht0.out]; simpa using h0, by omega, by omega, ?_⟩
          rw [get_l]
          cases hb : blankB (t.toList.getD 0 0)
          · rfl
          · exact absurd ⟨by omega, hb⟩ hgo
      clear hgo
      rcases hcase with he | ⟨he, hposi, hpos, hb'⟩
      all_goals
        go_wp2_with (go_at_call 86; refine (blank_any _ _).mono ?_; rintro e w' ⟨rfl, rfl⟩)
        go_loop [0] (fun p => ∃ (q : ByteArray), p = .string q ∧ q.size ≤ s.size ∧ Hid (rtrim t.toList = rtrim q.toList)) (fun p => strSize p)
        case atStart => exact ⟨t, rfl, ht, rfl⟩
        case round =>
          obtain ⟨q, rfl, hq, hcq⟩ := hrel
          clear he
          try clear hposi hb'
          have hq0 := Lib.hid (isEmpty_size q)
          have hqz := Lib.hid (size_toList q)
          by_cases h0 : q.size = 0
          · have he : q.toList.isEmpty = true := by rw [hq0.out]; simpa using h0
            have hfin := Lib.hid (show trimL s.toList = q.toList by rw [hch2.out, hcq.out, rtrim_end (Or.inl (by rw [← hqz.out]; exact h0))])
            go_wp2
            go_ret
            exact ⟨ret_str (by rw [hfin.out, S_of]), rfl⟩
          · have he : q.toList.isEmpty = false := by rw [hq0.out]; simpa using h0
            have hposi : (1 : Int) ≤ q.size := by omega
            have hpos1 : q.size - 1 < q.size := by omega
            by_cases hb : blankB q[q.size - 1] = true
            · have hst := Lib.hid (rtrim_step (l := q.toList) (by rw [← hqz.out]; omega) (by rw [← hqz.out, ← get_l q _ hpos1]; exact hb))
              go_wp2_with (go_at_call 86; refine (blank_any _ _).mono ?_; rintro e w' ⟨rfl, rfl⟩)
              go_round
              case rel => exact ⟨q.extract 0 (q.size - 1), rfl, by rw [extract_to, S_size, List.length_take, ← hqz.out]; omega, by show _ = _; rw [hcq.out, hst.out, extract_to, S_toList, ← hqz.out]⟩
              case measure => simp only [strSize]; rw [extract_to, S_size, List.length_take, ← hqz.out]; omega
            · have hb' : blankB q[q.size - 1] = false := by simpa using hb
              have hfin := Lib.hid (show trimL s.toList = q.toList by rw [hch2.out, hcq.out, rtrim_end (Or.inr (by rw [← hqz.out, ← get_l q _ hpos1]; exact hb'))])
              clear hb
              go_wp2_with (go_at_call 86; refine (blank_any _ _).mono ?_; rintro e w' ⟨rfl, rfl⟩)
              go_ret
              exact ⟨ret_str (by rw [hfin.out, S_of]), rfl⟩
end Go.Proofs.Ytgfoaopfdpclhaa
