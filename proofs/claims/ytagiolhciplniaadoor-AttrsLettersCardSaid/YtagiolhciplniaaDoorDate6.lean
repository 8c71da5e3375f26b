/-
  The walks of package date, sixth part: a text's parts. (See NOTES whether it builds.)
-/
import Derived.Test.YtagiolhciplniaaDoorDate5
namespace Go.Proofs.YtagiolhciplniaaDoor
open Go.RowKit
set_option linter.unusedVariables false

set_option maxHeartbeats 2000000 in
theorem tokens_any (s : ByteArray) (w : World) (hs : s.size ≤ 4294967296) :
    Calls Tryd.prog 34 #[.string s] w fun e w' => ∃ A cp, e = .returned (.slice A (tokensL s.toList).length cp) ∧
      w'.ownsRow w.heap.size 9 1 (.slice A (tokensL s.toList).length cp) (tokensL s.toList).length ((tokensL s.toList).map strV) ∧ Below w.heap.size w w' := by
  obtain ⟨i0, hi, hz0, hz1, hz2⟩ := info_parts Tryd.info9
  have hsz := Lib.hid (size_toList s)
  have htl : (tokensL s.toList).length ≤ s.size + 1 := by unfold tokensL; rw [size_toList]; exact tokGo_len _ _
  have hst := Lib.hid (show tokensL s.toList = [] ++ tokGo ((s.toList.drop 0).take (0 - 0)) (s.toList.drop 0) by simp [tokensL])
  go_enter Tryd.func34, Tryd.ntmps34
  go_wp2
  go_loopw [3, 4, 5] (fun v p i wr => ∃ (k f : Nat) (acc : List (List UInt8)), i = .int .i64 k ∧ p = .int .i64 f ∧ f ≤ k ∧ k ≤ s.size + 1 ∧ wr.ownsRow w.heap.size 9 1 v acc.length (acc.map strV) ∧ Below w.heap.size w wr ∧ w.heap.size ≤ wr.heap.size ∧ Hid (k ≤ s.size → tokensL s.toList = acc ++ tokGo ((s.toList.drop f).take (k - f)) (s.toList.drop k)) ∧ Hid (k = s.size + 1 → tokensL s.toList = acc)) (fun _ _ i _ => s.size + 2 - (intOf i).toNat)
  case atStart => exact ⟨0, 0, [], rfl, rfl, Nat.le_refl _, by omega, World.ownsRow_nil _ _ _ _, Below.refl _ _, Nat.le_refl _, fun _ => hst.out, fun h => by omega⟩
  case round =>
    obtain ⟨k, f, acc, rfl, rfl, hfk, hk, hown, hbel, hsz', hin, hend⟩ := hrel
    by_cases hlt : k < s.size
    · have hlti : (k : Int) < s.size := by omega
      have hle : (k : Int) ≤ s.size := by omega
      have hx := Lib.hid (get_l s k hlt)
      cases hd : delimB s[k]
      · have hD := Lib.hid hd
        clear hd
        go_wp2_with fail
        refine (delim_any _ _).mono ?_
        rintro e w' ⟨rfl, rfl⟩
        rw [hD.out]
        go_wp2_with fail
        go_roundw
        case rel => exact ⟨k + 1, f, acc, by go_num, rfl, by omega, by omega, hown, hbel, hsz', fun _ => by rw [hin.out (by omega), tok_in hfk (by rw [← hsz.out]; exact hlt) (by rw [← hx.out]; exact hD.out)], fun h => by omega⟩
        case measure => simp [intOf]; omega
      · have hD := Lib.hid hd
        clear hd
        have hcut := Lib.hid (tok_cut hfk (by rw [← hsz.out]; exact hlt) (by rw [← hx.out]; exact hD.out) : tokGo ((s.toList.drop f).take (k - f)) (s.toList.drop k) = _)
        by_cases hf : f < k
        · have hfi : decide ((f : Nat) < k) = true := decide_eq_true hf
          have hch := Lib.hid (show tokensL s.toList = (acc ++ [(s.toList.drop f).take (k - f)]) ++ tokGo ((s.toList.drop (k + 1)).take (k + 1 - (k + 1))) (s.toList.drop (k + 1)) by rw [hin.out (by omega), hcut.out, if_pos hf, List.append_assoc])
          have hacc : acc.length + 1 ≤ s.size + 1 := by
            have h1 := congrArg List.length hch.out
            simp at h1
            omega
          have hxt := Lib.hid (extract_S s f k)
          have hfi2 : (f : Int) ≤ k := by omega
          clear hcut hin hend
          go_wp2_with fail
          refine (delim_any _ _).mono ?_
          rintro e w' ⟨rfl, rfl⟩
          rw [hD.out]
          go_wp2_with (first
            | (at_builtin; refine wpList_push rfl _ _ 58 rfl w.heap.size 9 i0 (.string ByteArray.empty) 1 16 Tryd.underlying58 hi hz0 hz1 hz2 rfl (by decide) _ _ _ rfl hown _ _ rfl rfl rfl ?c1 ?c2 ?c3 hsz' hbel ?_))
          case c1 => exact rfl
          case c2 => unfold maxLen; omega
          case c3 => omega
          intro v' w' hown' hg hbel' hsz2
          go_wp2
          go_roundw
          case rel =>
            refine ⟨k + 1, k + 1, acc ++ [(s.toList.drop f).take (k - f)], by go_num, by go_num, Nat.le_refl _, by omega, ?_, hbel', hsz2, fun _ => hch.out, fun h => by omega⟩
            rw [List.map_append, List.length_append]
            rw [hxt.out] at hown'
            exact hown'
          case measure => simp [intOf]; omega
        · have hfi : decide ((f : Nat) < k) = false := decide_eq_false hf
          have hch := Lib.hid (show tokensL s.toList = acc ++ tokGo ((s.toList.drop (k + 1)).take (k + 1 - (k + 1))) (s.toList.drop (k + 1)) by rw [hin.out (by omega), hcut.out, if_neg hf, List.nil_append])
          clear hcut hin hend
          go_wp2_with fail
          refine (delim_any _ _).mono ?_
          rintro e w' ⟨rfl, rfl⟩
          rw [hD.out]
          go_wp2_with fail
          go_roundw
          case rel => exact ⟨k + 1, k + 1, acc, by go_num, by go_num, Nat.le_refl _, by omega, hown, hbel, hsz', fun _ => hch.out, fun h => by omega⟩
          case measure => simp [intOf]; omega
    · by_cases hk2 : k = s.size
      · subst hk2
        have hcut := Lib.hid (show tokGo ((s.toList.drop f).take (s.size - f)) (s.toList.drop s.size) = (if f < s.size then [(s.toList.drop f).take (s.size - f)] else []) by
          have := tok_end (l := s.toList) (f := f) (by rw [← hsz.out]; exact hfk)
          rwa [← hsz.out] at this)
        by_cases hf : f < s.size
        · have hch := Lib.hid (show tokensL s.toList = acc ++ [(s.toList.drop f).take (s.size - f)] by rw [hin.out (Nat.le_refl _), hcut.out, if_pos hf])
          have hacc : acc.length + 1 ≤ s.size + 1 := by
            have h1 := congrArg List.length hch.out
            simp at h1
            omega
          have hxt := Lib.hid (extract_S s f s.size)
          have hfi2 : (f : Int) ≤ s.size := by omega
          clear hcut hin hend
          go_wp2_with (first
            | (at_builtin; refine wpList_push rfl _ _ 58 rfl w.heap.size 9 i0 (.string ByteArray.empty) 1 16 Tryd.underlying58 hi hz0 hz1 hz2 rfl (by decide) _ _ _ rfl hown _ _ rfl rfl rfl ?c1 ?c2 ?c3 hsz' hbel ?_))
          case c1 => exact rfl
          case c2 => unfold maxLen; omega
          case c3 => omega
          intro v' w' hown' hg hbel' hsz2
          go_wp2
          go_roundw
          case rel =>
            refine ⟨s.size + 1, s.size + 1, acc ++ [(s.toList.drop f).take (s.size - f)], by go_num, by go_num, Nat.le_refl _, by omega, ?_, hbel', hsz2, fun h => by omega, fun _ => hch.out⟩
            rw [List.map_append, List.length_append]
            rw [hxt.out] at hown'
            exact hown'
          case measure => simp [intOf] <;> omega
        · have hch := Lib.hid (show tokensL s.toList = acc by rw [hin.out (Nat.le_refl _), hcut.out, if_neg hf, List.append_nil])
          clear hcut hin hend
          go_wp2_with fail
          go_roundw
          case rel => exact ⟨s.size + 1, s.size + 1, acc, by go_num, by go_num, Nat.le_refl _, by omega, hown, hbel, hsz', fun h => by omega, fun _ => hch.out⟩
          case measure => simp [intOf] <;> omega
      · have hk3 : (s.size : Int) < k := by omega
        have hch := Lib.hid (hend.out (by omega))
        clear hin hend
        go_wp2_with fail
        go_ret
        rw [hch.out]
        obtain ⟨A, cp, rfl⟩ := own_form hown
        exact ⟨A, cp, rfl, hown, hbel⟩
end Go.Proofs.YtagiolhciplniaaDoor
