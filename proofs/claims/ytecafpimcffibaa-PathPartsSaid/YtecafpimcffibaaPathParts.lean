/-
  path.Parts, walked; and the law on it.
-/
import Derived.Test.YtecafpimcffibaaPathLaw
import Derived.Test.YtecafpimcffibaaSlices
namespace Go.Proofs.Ytecafpimcffibaa
open Go.RowKit
set_option linter.unusedVariables false

/-- A path t's directories from t on, up to the first one. -/
def IsParts : List UInt8 → List (List UInt8) → Prop
  | _, [] => False
  | t, x :: r => x = t ∧ ((t = [47]) ↔ (r = [])) ∧ (r = [] ∨ IsParts (dirOf t) r)

theorem dirOf_prefix (l : List UInt8) (h : Lib.hasPrefix l [47] = true) : Lib.hasPrefix (dirOf l) [47] = true := by
  unfold dirOf
  by_cases h2 : lastTo l 47 l.length = 0
  · rw [if_pos (Or.inr h2)]; rfl
  · rw [if_neg (by rw [h]; simpa using h2)]
    obtain ⟨h0, h1⟩ := hasPrefix_get h
    have h3 := lastTo_ge h1 h0
    obtain ⟨i, hi⟩ : ∃ i : Nat, lastTo l 47 l.length = i := ⟨_, (Int.toNat_of_nonneg h3).symm⟩
    rw [hi] at h2 ⊢
    cases l with
    | nil => simp at h0
    | cons x l =>
      cases i with
      | zero => simp at h2
      | succ i => simpa [Lib.hasPrefix] using h
theorem dirOf_short (l : List UInt8) (h : Lib.hasPrefix l [47] = true) : (dirOf l).length ≤ l.length ∧ (l ≠ [47] → (dirOf l).length < l.length) := by
  obtain ⟨h0, h1⟩ := hasPrefix_get h
  unfold dirOf
  by_cases h2 : lastTo l 47 l.length = 0
  · rw [if_pos (Or.inr h2)]
    refine ⟨by simp; omega, fun hne => ?_⟩
    match l, h0, h with
    | [x], _, h => exact absurd (by simpa [Lib.hasPrefix] using (h : (47 == x && true) = true)) (fun e : (47 : UInt8) = x => hne (by rw [e]))
    | x :: y :: l, _, _ => simp
  · rw [if_neg (by rw [h]; simpa using h2)]
    have h3 := lastTo_ge h1 h0
    have h4 := lastTo_lt l 47 l.length
    simp
    omega

/-- A text's size, in a slot. -/
def strSize : Value → Nat | .string t => t.size | _ => 0

theorem Try.info9 : (Try.prog.info? 9).map (fun i => (i.zero, i.size, i.bytes)) = some (some (.string ByteArray.empty), 1, 16) := by kernel_rfl

set_option maxHeartbeats 1000000 in
theorem parts_any (s : ByteArray) (w : World) (hs : s.size ≤ 4294967296) (hp : Lib.hasPrefix s.toList [47] = true) :
    Calls Try.prog 24 #[.string s] w fun e w' => ∃ A c xs, e = .returned (.slice A xs.length c) ∧ w'.ownsRow w.heap.size 9 1 (.slice A xs.length c) xs.length (xs.map strV) ∧ IsParts (dirOf s.toList) xs ∧ Below w.heap.size w w' := by
  obtain ⟨i0, hi, hz0, hz1, hz2⟩ := info_parts Try.info9
  have hs1 : s.size ≤ maxLen := by unfold maxLen; omega
  go_enter Try.func24, Try.ntmps24
  go_wp2_with (first
    | (go_at_call 12; refine (default_any _ _ hs1).mono ?_; rintro e w' ⟨rfl, rfl⟩)
    | (go_at_call 37; refine (hasPrefix_any s _ _ hs1 (by decide)).mono ?_; rintro e w' ⟨rfl, rfl⟩))
  go_loopw [0, 3] (fun p v wr => ∃ (q : List UInt8) (acc : List (List UInt8)), p = .string (S q) ∧ q.length ≤ s.size ∧ Lib.hasPrefix q [47] = true ∧ wr.ownsRow w.heap.size 9 1 v acc.length (acc.map strV) ∧ Below w.heap.size w wr ∧ w.heap.size ≤ wr.heap.size ∧ acc.length + q.length ≤ s.size + 1 ∧ ∀ r, IsParts q r → IsParts (dirOf s.toList) (acc ++ r))
    (fun p _ _ => strSize p)
  case atStart =>
    have hd := dirOf_short s.toList hp
    rw [← size_toList] at hd
    exact ⟨dirOf s.toList, [], rfl, hd.1, dirOf_prefix _ hp, World.ownsRow_nil _ _ _ _, Below.refl _ _, Nat.le_refl _, by simp; omega, fun r h => h⟩
  case round =>
    obtain ⟨q, acc, rfl, hq, hq1, hown, hbel, hsz, hlen, hch⟩ := hrel
    have hch := Lib.hid hch
    have hqs := dirOf_short q hq1
    have hqm : (S q).size ≤ maxLen := by rw [S_size]; unfold maxLen; omega
    by_cases h1 : (q == [47]) = true
    · go_wp2_with (first
        | (at_builtin; refine wpList_push rfl _ _ 32 rfl w.heap.size 9 i0 (.string ByteArray.empty) 1 16 Try.underlying32 hi hz0 hz1 hz2 rfl (by decide) _ _ _ rfl hown _ rfl rfl ?c1 ?c2 ?c3 hsz hbel ?_))
      case c1 => exact rfl
      case c2 => unfold maxLen; omega
      case c3 => omega
      intro v' w' hown' hg hbel' hsz'
      have h1 : q = [47] := by simpa using h1
      go_wp2
      go_ret
      rw [show acc.length + 1 = (acc ++ [[47]]).length by simp] at hown'
      obtain ⟨A, c, rfl⟩ := own_form hown'
      refine ⟨A, c, acc ++ [[47]], rfl, ?_, hch.out [[47]] ⟨h1.symm, ⟨fun _ => rfl, fun _ => h1⟩, Or.inl rfl⟩, hbel'⟩
      rw [List.map_append]
      exact hown'
    · have h1' : (q == [47]) = false := by simpa using h1
      go_wp2_with (first
        | (at_builtin; refine wpList_push rfl _ _ 32 rfl w.heap.size 9 i0 (.string ByteArray.empty) 1 16 Try.underlying32 hi hz0 hz1 hz2 rfl (by decide) _ _ _ rfl hown _ rfl rfl ?c1 ?c2 ?c3 hsz hbel ?_))
      case c1 => exact rfl
      case c2 => unfold maxLen; omega
      case c3 => omega
      intro v' w' hown' hg hbel' hsz'
      go_wp2_with (go_at_call 12; refine (default_any _ _ hqm).mono ?_; rintro e w' ⟨rfl, rfl⟩)
      go_roundw
      case rel =>
        refine ⟨dirOf q, acc ++ [q], rfl, by omega, dirOf_prefix _ hq1, ?_, hbel', hsz', by have := hqs.2 (by simpa using h1); simp; omega, fun r hr => ?_⟩
        · rw [List.length_append, List.map_append]
          exact hown'
        · rw [List.append_assoc]
          refine hch.out _ ⟨rfl, ⟨fun e => absurd e (by simpa using h1), fun e => ?_⟩, Or.inr hr⟩
          have e' : r = [] := e
          subst e'
          exact hr.elim
      case measure => simpa [strSize] using hqs.2 (by simpa using h1)

set_option maxHeartbeats 400000 in
theorem parts_none (s : ByteArray) (w : World) (hs : s.size ≤ maxLen) (hp : Lib.hasPrefix s.toList [47] = false) :
    Calls Try.prog 24 #[.string s] w fun e w' => e = .returned (.slice none 0 0) ∧ w = w' := by
  go_enter Try.func24, Try.ntmps24
  go_wp2_with (first
    | (go_at_call 37; refine (hasPrefix_any s _ _ hs (by decide)).mono ?_; rintro e w' ⟨rfl, rfl⟩))
  go_ret
  exact ⟨rfl, rfl⟩

set_option maxHeartbeats 1000000 in
theorem pathParts_none (s : ByteArray) (w : World) (hs : s.size ≤ maxLen) (h : 300 < s.size ∨ Lib.hasPrefix s.toList [47] = false) :
    Calls Try.prog 8 #[.string s] w fun e w' => e = .returned (.bool true) ∧ Below w.heap.size w w' := by
  have hs' := hs
  unfold maxLen at hs'
  by_cases hl : 300 < s.size
  · go_enter Try.func8, Try.ntmps8
    go_wp2_with (go_at_call 11; refine (awake11 _).mono ?_; rintro e w' ⟨rfl, rfl⟩)
    go_ret
    exact ⟨rfl, Below.refl _ _⟩
  have hp : Lib.hasPrefix s.toList [47] = false := by rcases h with h | h; exact absurd h hl; exact h
  by_cases h0 : 0 < s.size
  · have he : s.toList.isEmpty = false := by
      cases hh : s.toList with
      | nil => rw [size_toList, hh] at h0; simp at h0
      | cons x l => rfl
    have h1 : (s.toList.getD 0 0 == 47) = false := by
      rw [hasPrefix_one, ← size_toList] at hp
      simpa [h0] using hp
    have h0i : ((0 : Int) < s.size) := by omega
    have h3 : (((s[0].toNat : Int)) != 47) = true := by rw [get_l, nec 47 (i := 47) rfl, h1]; rfl
    clear h1 h
    go_enter Try.func8, Try.ntmps8
    go_wp2_with (first
      | (go_at_call 11; refine (awake11 _).mono ?_; rintro e w' ⟨rfl, rfl⟩)
      | (go_at_call 24; refine (parts_none _ _ hs hp).mono ?_; rintro e w' ⟨rfl, rfl⟩))
    go_ret
    exact ⟨rfl, Below.refl _ _⟩
  · have he : s.toList.isEmpty = true := by
      cases hh : s.toList with
      | nil => rfl
      | cons x l => rw [size_toList, hh] at h0; simp at h0
    clear h
    go_enter Try.func8, Try.ntmps8
    go_wp2_with (first
      | (go_at_call 11; refine (awake11 _).mono ?_; rintro e w' ⟨rfl, rfl⟩)
      | (go_at_call 24; refine (parts_none _ _ hs hp).mono ?_; rintro e w' ⟨rfl, rfl⟩))
    go_ret
    exact ⟨rfl, Below.refl _ _⟩

theorem IsParts.ne {t : List UInt8} {xs : List (List UInt8)} (h : IsParts t xs) : 0 < xs.length := by
  cases xs with
  | nil => exact h.elim
  | cons x r => simp

set_option maxHeartbeats 2000000 in
theorem pathParts_some (s : ByteArray) (w : World) (hs : s.size ≤ maxLen) (hl : s.size ≤ 300) (hp : Lib.hasPrefix s.toList [47] = true) :
    Calls Try.prog 8 #[.string s] w fun e w' => e = .returned (.bool true) ∧ Below w.heap.size w w' := by
  have hs' := hs
  unfold maxLen at hs'
  obtain ⟨h0, h1⟩ := hasPrefix_get hp
  rw [← size_toList] at h0
  have he : s.toList.isEmpty = false := by
    cases hh : s.toList with
    | nil => rw [size_toList, hh] at h0; simp at h0
    | cons x l => rfl
  have h0i : ((0 : Int) < s.size) := by omega
  have h3 : (((s[0].toNat : Int)) != 47) = false := by rw [get_l, nec 47 (i := 47) rfl, h1]; rfl
  clear h1
  go_enter Try.func8, Try.ntmps8
  go_wp2_with (first
    | (go_at_call 24; refine (parts_any _ _ (by omega) hp).mono ?_; rintro e w1 ⟨A, c, xs, rfl, hown, hch, hbel⟩)
    | (go_at_call 13; refine (refDefault_any _ _ hs).mono ?_; rintro e w' ⟨rfl, rfl⟩))
  have hR := Rd.of_own hown
  have hcap := hR.cap
  have hm := hcap.2
  unfold maxLen at hm
  rw [dirOf_ref]
  have hd := dirOf_short s.toList hp
  have hne := hch.ne
  go_loop [4, 5] (fun t i => ∃ (k : Nat) (q : List UInt8), k ≤ xs.length ∧ i = .int .i64 k ∧ t = .string (S q) ∧ q.length ≤ s.toList.length ∧ Lib.hasPrefix q [47] = true ∧ fitB s.toList q = true ∧ (k < xs.length → IsParts q (xs.drop k))) (fun _ i => xs.length - (intOf i).toNat)
  case atStart => exact ⟨0, _, Nat.zero_le _, rfl, rfl, hd.1, dirOf_prefix _ hp, fit_dir _ hp, fun _ => hch⟩
  case round =>
    obtain ⟨k, q, hk, rfl, rfl, hq, hq1, hf, hch'⟩ := hrel
    by_cases hlt : k < xs.length
    · obtain ⟨b, off, rfl, hb, hc⟩ := hR.at_ (by omega)
      have hxs : xs.drop k = xs[k] :: xs.drop (k + 1) := List.drop_eq_getElem_cons hlt
      have hparts := hch' hlt
      rw [hxs] at hparts
      obtain ⟨p1, p2, p3⟩ := hparts
      have hcell : w1.cell? ⟨b, off + k, none⟩ = some (.string (S q)) := by
        rw [hc k (by simpa using hlt), List.getElem?_map, List.getElem?_eq_getElem hlt, p1]; rfl
      have hlen : (xs.drop (k + 1) = []) ↔ k + 1 = xs.length := by
        rw [List.drop_eq_nil_iff]; omega
      have hi0 : (0 : Int) ≤ k := by omega
      have hi1 : (k : Int) < xs.length := by omega
      have hmq : (S q).size ≤ maxLen := by rw [S_size]; unfold maxLen; rw [← size_toList] at hq; omega
      have hd' := dirOf_short q hq1
      have hP := Lib.hid (And.intro p2 p3)
      have hX := Lib.hid hxs
      clear hxs hch' p2 p3 hc
      have hdr := dirOf_ref q
      by_cases hlast : k + 1 = xs.length
      · have e1 : (q == [47]) = true := by simpa using hP.out.1.2 (hlen.2 hlast)
        have e2 : ((k : Int) + 1 == xs.length) = true := beq_iff_eq.2 (by omega)
        have hL := Lib.hid hlast
        clear hlast hlen hR
        go_wp2_with (first
          | (go_at_call 15; refine (match_any _ _ _ hs hmq).mono ?_; rintro e w' ⟨rfl, rfl⟩)
          | (go_at_call 13; refine (refDefault_any _ _ hmq).mono ?_; rintro e w' ⟨rfl, rfl⟩))
        go_round
        case rel => exact ⟨k + 1, _, by omega, by go_num, rfl, by omega, dirOf_prefix _ hq1, fit_trans _ _ _ hf (fit_dir _ hq1), fun h => absurd h (by have := hL.out; omega)⟩
        case measure => simp [intOf]; omega
      · have e0 : ¬ (xs.drop (k + 1) = []) := fun h => hlast (hlen.1 h)
        have e1 : (q == [47]) = false := by rw [beq_eq_false_iff_ne]; exact fun h => e0 (hP.out.1.1 h)
        have e2 : ((k : Int) + 1 == xs.length) = false := beq_eq_false_iff_ne.2 (by omega)
        have hL := Lib.hid hlast
        have hE := Lib.hid e0
        clear hlast hlen hR e0
        go_wp2_with (first
          | (go_at_call 15; refine (match_any _ _ _ hs hmq).mono ?_; rintro e w' ⟨rfl, rfl⟩)
          | (go_at_call 13; refine (refDefault_any _ _ hmq).mono ?_; rintro e w' ⟨rfl, rfl⟩))
        go_round
        case rel => exact ⟨k + 1, _, by omega, by go_num, rfl, by omega, dirOf_prefix _ hq1, fit_trans _ _ _ hf (fit_dir _ hq1), fun h => hP.out.2.resolve_left hE.out⟩
        case measure => simp [intOf]; omega
    · obtain rfl : k = xs.length := by omega
      go_wp2_with (go_at_call 11; refine (awake11 _).mono ?_; rintro e w' ⟨rfl, rfl⟩)
      go_ret
      exact ⟨rfl, hbel⟩

theorem pathParts (s : ByteArray) (w : World) (hs : s.size ≤ maxLen) :
    Calls Try.prog 8 #[.string s] w fun e w' => e = .returned (.bool true) ∧ Below w.heap.size w w' := by
  by_cases h1 : 300 < s.size
  · exact pathParts_none s w hs (Or.inl h1)
  · by_cases h2 : Lib.hasPrefix s.toList [47] = true
    · exact pathParts_some s w hs (by omega) h2
    · exact pathParts_none s w hs (Or.inr (by simpa using h2))
end Go.Proofs.Ytecafpimcffibaa
