/-
  Plain laws: what is made of a header is right.
-/
import Derived.Test.YtgfoaopfdpclhaaGreatDoorLaSuffix
import Derived.Test.YtgfoaopfdpclhaaGreatDoorBu33
namespace Go.Proofs.YtgfoaopfdpclhaaGreatDoor
open Go.RowKit
set_option linter.unusedVariables false
set_option maxRecDepth 100000

theorem cut_app {c : UInt8} {x r : List UInt8} (h : c ∉ x) : cutL (x ++ c :: r) c = some (x, r) := by
  induction x with
  | nil => simp [cutL]
  | cons a x ih =>
    simp only [List.mem_cons, not_or] at h
    have := ih h.2
    rw [List.cons_append, cutL, if_neg (by simpa using fun e => h.1 e.symm), this]; rfl
theorem split_app {c : UInt8} {x r : List UInt8} (h : c ∉ x) : splitL (x ++ c :: r) c = x :: splitL r c := by rw [split_cut, cut_app h]
theorem split_one {c : UInt8} {x : List UInt8} (h : c ∉ x) : splitL x c = [x] := by rw [split_cut, cut_none_iff.2 h]
theorem split_in (l : List UInt8) (c : UInt8) : ∀ x ∈ splitL l c, c ∉ x ∧ ∀ b ∈ x, b ∈ l := by
  induction hn : l.length using Nat.strongRecOn generalizing l with
  | ind n ih =>
    intro x hx
    rw [split_cut] at hx
    cases hc : cutL l c with
    | none =>
      rw [hc] at hx
      simp only [List.mem_singleton] at hx
      subst hx
      exact ⟨cut_none_iff.1 hc, fun b hb => hb⟩
    | some p =>
      rw [hc] at hx
      obtain ⟨h1, h2, h3, h4, h5⟩ := cut_some hc
      simp only [List.mem_cons] at hx
      rcases hx with rfl | hx
      · exact ⟨h5, fun b hb => by rw [h4]; simp [hb]⟩
      · have := ih p.2.length (by rw [← hn, h4]; simp; omega) p.2 rfl x hx
        exact ⟨this.1, fun b hb => by rw [h4]; simp [this.2 b hb]⟩

theorem dropWhile_twice {α : Type} (p : α → Bool) (l : List α) : (l.dropWhile p).dropWhile p = l.dropWhile p := by
  induction l with
  | nil => rfl
  | cons a r ih =>
    by_cases h : p a = true
    · rw [List.dropWhile_cons_of_pos h, ih]
    · rw [List.dropWhile_cons_of_neg h, List.dropWhile_cons_of_neg h]
theorem ltrim_mem {l : List UInt8} {b : UInt8} (h : b ∈ ltrim l) : b ∈ l := (List.dropWhile_sublist _).subset h
theorem rtrim_mem {l : List UInt8} {b : UInt8} (h : b ∈ rtrim l) : b ∈ l := by
  unfold rtrim at h
  rw [List.mem_reverse] at h
  have := (List.dropWhile_sublist _).subset h
  exact List.mem_reverse.1 this
theorem trimL_mem {l : List UInt8} {b : UInt8} (h : b ∈ trimL l) : b ∈ l := ltrim_mem (rtrim_mem h)
theorem ltrim_head (l : List UInt8) : (ltrim l).length = 0 ∨ blankB ((ltrim l).getD 0 0) = false := by
  unfold ltrim
  induction l with
  | nil => exact .inl rfl
  | cons a r ih =>
    by_cases h : blankB a = true
    · rw [List.dropWhile_cons_of_pos h]; exact ih
    · rw [List.dropWhile_cons_of_neg h]; exact .inr (by simpa using h)
theorem rtrim_prefix (l : List UInt8) : rtrim l <+: l := by
  unfold rtrim
  have : l.reverse.dropWhile blankB <:+ l.reverse := List.dropWhile_suffix _
  have := List.reverse_prefix.2 this
  rwa [List.reverse_reverse] at this
theorem trimL_twice (l : List UInt8) : trimL (trimL l) = trimL l := by
  unfold trimL
  have h1 : ltrim (rtrim (ltrim l)) = rtrim (ltrim l) := by
    apply ltrim_end
    rcases ltrim_head l with h | h
    · left
      have := (rtrim_prefix (ltrim l)).length_le
      omega
    · by_cases h0 : (rtrim (ltrim l)).length = 0
      · exact .inl h0
      · right
        obtain ⟨t, ht⟩ := rtrim_prefix (ltrim l)
        rw [← ht, List.getD_eq_getElem?_getD, List.getElem?_append_left (by omega)] at h
        rw [List.getD_eq_getElem?_getD]; exact h
  rw [h1]
  unfold rtrim
  rw [List.reverse_reverse, dropWhile_twice]
/-- What a part of a header is read as. -/
def Good (a : List UInt8 × List UInt8) : Prop := trimL a.1 = a.1 ∧ trimL a.2 = a.2 ∧ 61 ∉ a.1
theorem pair_good (x : List UInt8) : Good (pairL x) := by
  unfold pairL Good
  cases hc : cutL x 61 with
  | none => exact ⟨trimL_twice _, rfl, fun h => cut_none_iff.1 hc (trimL_mem h)⟩
  | some p => exact ⟨trimL_twice _, trimL_twice _, fun h => (cut_some hc).2.2.2.2 (trimL_mem h)⟩
theorem pair_mem {x : List UInt8} {b : UInt8} (h : b ∈ (pairL x).1 ∨ b ∈ (pairL x).2) : b ∈ x := by
  unfold pairL at h
  cases hc : cutL x 61 with
  | none => rw [hc] at h; simp only [List.not_mem_nil, or_false] at h; exact trimL_mem h
  | some p =>
    rw [hc] at h
    rw [(cut_some hc).2.2.2.1]
    rcases h with h | h
    · simp [trimL_mem h]
    · simp [trimL_mem h]

/-- What a header's pair meets. -/
theorem pair_right {s : List UInt8} (h : parseE s = 0) : (parseP s).1 ≠ [] ∧ plainB (parseP s).1 256 [59, 61] = true ∧ plainB (parseP s).2 1024 [59] = true := by
  have hP : parseP s = pairL ((splitL s 59).headD []) := by unfold parseP; rw [if_pos h]
  have hin := split_in s 59
  have hhead : (splitL s 59).headD [] ∈ splitL s 59 := by
    have := split_ne s 59
    cases hsp : splitL s 59 with
    | nil => exact absurd hsp this
    | cons a b => simp
  unfold parseE at h
  simp only at h
  rw [← hP] at h
  split at h
  · cases h
  split at h
  · cases h
  rename_i h1 h2
  split at h
  · cases h
  rename_i h3
  simp only [Bool.or_eq_true, not_or, Bool.not_eq_true] at h2
  simp only [Bool.or_eq_true, decide_eq_true_eq, not_or, Nat.not_lt] at h3
  have hg : Good (parseP s) := by rw [hP]; exact pair_good _
  have hm : ∀ b, b ∈ (parseP s).1 ∨ b ∈ (parseP s).2 → b ∈ s ∧ b ≠ 59 := by
    intro b hb
    rw [hP] at hb
    have := pair_mem hb
    exact ⟨(hin _ hhead).2 b this, fun e => (hin _ hhead).1 (e ▸ this)⟩
  have hctl : ∀ b ∈ s, ctlB b = false := fun b hb => by
    have := List.any_eq_false.1 h2.1.1 b hb
    simpa using this
  have any1 : (parseP s).1.any ctlB = false := List.any_eq_false.2 fun b hb => by rw [hctl b (hm b (.inl hb)).1]; simp
  have any2 : (parseP s).2.any ctlB = false := List.any_eq_false.2 fun b hb => by rw [hctl b (hm b (.inr hb)).1]; simp
  have c59a : cutL (parseP s).1 59 = none := cut_none_iff.2 fun hb => (hm 59 (.inl hb)).2 rfl
  have c59b : cutL (parseP s).2 59 = none := cut_none_iff.2 fun hb => (hm 59 (.inr hb)).2 rfl
  have c61 : cutL (parseP s).1 61 = none := cut_none_iff.2 hg.2.2
  refine ⟨fun e => by rw [e] at h2; simp at h2, ?_, ?_⟩
  · unfold plainB
    rw [any1, hg.1, decide_eq_true (by omega)]
    simp [c59a, c61]
  · unfold plainB
    rw [any2, hg.2.1, decide_eq_true (by omega)]
    simp [c59b]
theorem mk_parts {rs : List (List UInt8)} {r : Rq} {head : List UInt8} (h : mkE rs r head = 0) : checkI rs = 0 ∧ rightU r = true ∧ parseE head = 0 ∧ domE rs r (fieldsH head) = 0 ∧ pathE r (fieldsH head) = 0 ∧ flagE r (fieldsH head) = 0 := by
  unfold mkE at h
  split at h
  · split at h
    · split at h
      · split at h
        · split at h
          · exact ⟨by assumption, by assumption, by assumption, by assumption, by assumption, h⟩
          · exact absurd h (by assumption)
        · exact absurd h (by assumption)
      · exact absurd h (by assumption)
    · cases h
  · exact absurd h (by assumption)
/-- The domain is the host's, or one that it matches. -/
theorem dom_match {rs : List (List UInt8)} {r : Rq} {head : List UInt8} (h : mkE rs r head = 0) : matchB r.h (domK rs r (fieldsH head)) = true ∧ (domS rs (fieldsH head) = false → domK rs r (fieldsH head) = r.h) := by
  obtain ⟨_, hr, _, hd, _, _⟩ := mk_parts h
  have hc : canonB r.h = true := by
    unfold rightU at hr
    simp only [Bool.and_eq_true] at hr
    exact hr.1.1.1.1
  generalize fieldsH head = f at *
  unfold domK
  cases hs : domS rs f with
  | false =>
    rw [if_neg (by simp)]
    exact ⟨by unfold matchB; rw [hc]; simp, fun _ => rfl⟩
  | true =>
    rw [if_pos rfl]
    refine ⟨?_, fun h => by cases h⟩
    unfold domS at hs
    simp only [Bool.and_eq_true, Bool.not_eq_true'] at hs
    unfold domE at hd
    rw [hs.1, hs.2] at hd
    simp only [if_true] at hd
    split at hd
    · split at hd
      · rename_i hx; cases hx
      · split at hd
        · assumption
        · cases hd
    · cases hd
theorem match_canon {a b : List UInt8} (h : matchB a b = true) : canonB b = true := by
  unfold matchB at h
  simp only [Bool.and_eq_true] at h
  exact h.1.2
theorem fdOf_ok (l : List UInt8) : FdOk (fdOf l) := by
  have : ∀ (ts : List (List UInt8)) (f : Fd), FdOk f → FdOk (ts.foldl tokStep f) := by
    intro ts
    induction ts with
    | nil => exact fun f h => h
    | cons t r ih => exact fun f h => ih _ (fd_step h t)
  exact this _ _ ⟨⟨by decide, by decide⟩, ⟨by decide, by decide⟩, ⟨by decide, by decide⟩, ⟨by decide, by decide⟩⟩
theorem dateT_bd (l : List UInt8) : -1099511627776 ≤ (dateT l).1 ∧ (dateT l).1 ≤ 1099511627776 := by
  have hf := (fdOf_ok l).1
  unfold dateT parseD
  split
  · exact ⟨by decide, by decide⟩
  · split
    · rename_i hr
      have := days_bd hr
      have h2 := (civil_days hr).2
      show -1099511627776 ≤ daysI _ _ _ * 86400 + (fdOf l).t ∧ daysI _ _ _ * 86400 + (fdOf l).t ≤ 1099511627776
      omega
    · exact ⟨by decide, by decide⟩
theorem read_ok (l : List (List UInt8 × List UInt8)) : (-1099511627776 ≤ (readT l).ex ∧ (readT l).ex ≤ 1099511627776) ∧ ((readT l).hp = true → (readT l).pt ≠ [] ∧ ((readT l).pt.getD 0 0 == 47) = true) := by
  have : ∀ (l : List (List UInt8 × List UInt8)) (f : Ff), ((-1099511627776 ≤ f.ex ∧ f.ex ≤ 1099511627776) ∧ (f.hp = true → f.pt ≠ [] ∧ (f.pt.getD 0 0 == 47) = true)) → ((-1099511627776 ≤ (l.foldl sayT f).ex ∧ (l.foldl sayT f).ex ≤ 1099511627776) ∧ ((l.foldl sayT f).hp = true → (l.foldl sayT f).pt ≠ [] ∧ ((l.foldl sayT f).pt.getD 0 0 == 47) = true)) := by
    intro l
    induction l with
    | nil => exact fun f h => h
    | cons p r ih =>
      intro f h
      refine ih _ ?_
      unfold sayT
      repeat' split
      all_goals (try exact h)
      · unfold exT; split
        · exact ⟨dateT_bd _, h.2⟩
        · exact h
      · unfold agT; split <;> exact h
      · unfold dmT; split <;> exact h
      · cases p.2 with
        | nil => exact ⟨h.1, fun e => by cases e⟩
        | cons a b =>
          unfold ptT
          simp only
          split
          · rename_i ha
            exact ⟨h.1, fun _ => ⟨by simp, by simpa using ha⟩⟩
          · exact ⟨h.1, fun e => by cases e⟩
  exact this l ff0 ⟨⟨by decide, by decide⟩, fun e => by cases e⟩
theorem exp_ok {f : Ff} (h : -1099511627776 ≤ f.ex ∧ f.ex ≤ 1099511627776) (n : Int) : (-1099511627776 ≤ (expI f n).1 ∧ (expI f n).1 ≤ 1099511627776) ∧ ((expI f n).2 = true ∨ (expI f n).1 = 1099511627776) := by
  have hc := clampN_bd n
  unfold expI
  split
  · split
    · exact ⟨⟨by decide, by decide⟩, .inl rfl⟩
    · split
      · exact ⟨⟨by decide, by decide⟩, .inl rfl⟩
      · exact ⟨⟨by simp only; omega, by simp only; omega⟩, .inl rfl⟩
  · split
    · exact ⟨h, .inl rfl⟩
    · exact ⟨⟨by decide, by decide⟩, .inr rfl⟩
theorem dir_ok (l : List UInt8) : dirOf l ≠ [] ∧ ((dirOf l).getD 0 0 == 47) = true := by
  unfold dirOf
  split
  · exact ⟨by simp, rfl⟩
  · rename_i h
    simp only [not_or, Bool.not_eq_false] at h
    obtain ⟨h1, h2⟩ := hasPrefix_get h.1
    have hg := lastTo_ge h2 h1
    have hk : 0 < (lastTo l 47 l.length).toNat := by omega
    generalize (lastTo l 47 l.length).toNat = k at *
    cases l with
    | nil => simp at h1
    | cons a r =>
      cases k with
      | zero => omega
      | succ k => exact ⟨by simp, by simpa using h2⟩
/-- What is made of a header is right. -/
theorem made_right {rs : List (List UInt8)} {r : Rq} {head : List UInt8} (now : Int) (h : mkE rs r head = 0) : rightI (mkX rs r head now) = true := by
  obtain ⟨_, _, h3, _, h5, _⟩ := mk_parts h
  obtain ⟨p1, p2, p3⟩ := pair_right h3
  have hm := match_canon (dom_match h).1
  have hrd := read_ok (parseL head)
  have he := exp_ok hrd.1 (clT now)
  have ht := clT_bd now
  have hpl : (pathM r (fieldsH head)).length ≤ 256 := by
    unfold pathE at h5
    split at h5
    · cases h5
    · omega
  have hpp : pathM r (fieldsH head) ≠ [] ∧ ((pathM r (fieldsH head)).getD 0 0 == 47) = true := by
    unfold pathM
    cases hp : (fieldsH head).hp with
    | true => rw [if_pos rfl]; exact hrd.2 hp
    | false => rw [if_neg (by simp)]; exact dir_ok _
  unfold rightI mkX
  simp only
  rw [p2, p3, hm, hpp.2, decide_eq_true hpl]
  have e1 : ((parseP head).1 == []) = false := by simpa using p1
  have e2 : (pathM r (fieldsH head) == []) = false := by simpa using hpp.1
  rw [e1, e2]
  unfold timeR inB
  simp only
  have g1 : -1099511627776 ≤ (expI (fieldsH head) (clT now)).1 := he.1.1
  have g2 : (expI (fieldsH head) (clT now)).1 ≤ 1099511627776 := he.1.2
  rw [decide_eq_true g1, decide_eq_true g2, decide_eq_true ht.1, decide_eq_true ht.2]
  have g3 : ((expI (fieldsH head) (clT now)).2 || (expI (fieldsH head) (clT now)).1 == 1099511627776) = true := by
    rcases he.2 with h | h
    · have h' : (expI (fieldsH head) (clT now)).2 = true := h
      rw [h']; rfl
    · have h' : (expI (fieldsH head) (clT now)).1 = 1099511627776 := h
      rw [h']; simp
  rw [g3]
  rfl
/-- It goes with the request, if nothing that is said stands against it. -/
theorem made_fits {rs : List (List UInt8)} {r : Rq} {head : List UInt8} (now : Int) (h : mkE rs r head = 0) : fitsR (mkX rs r head now) r now = !(((mkX rs r head now).c.se && !r.s) || (overB (mkX rs r head now).c now || !fitB r.p (mkX rs r head now).k.p)) := by
  obtain ⟨_, _, _, _, _, h6⟩ := mk_parts h
  obtain ⟨d1, d2⟩ := dom_match h
  have hfl : ((fieldsH head).ho && r.c) = false := by
    cases hh : ((fieldsH head).ho && r.c) with
    | false => rfl
    | true => unfold flagE at h6; rw [hh, if_pos rfl] at h6; cases h6
  have hnear : (r.h == (mkX rs r head now).k.d || (!(mkX rs r head now).c.ho && matchB r.h (mkX rs r head now).k.d)) = true := by
    show (r.h == domK rs r (fieldsH head) || (!(!domS rs (fieldsH head)) && matchB r.h (domK rs r (fieldsH head)))) = true
    cases hs : domS rs (fieldsH head) with
    | false => rw [d2 hs]; simp
    | true => rw [d1]; simp
  have hht : (!(mkX rs r head now).c.ht || !r.c) = true := by
    show (!(fieldsH head).ho || !r.c) = true
    revert hfl
    cases (fieldsH head).ho <;> cases r.c <;> simp
  unfold fitsR
  rw [hnear, hht]
  cases (mkX rs r head now).c.se <;> cases r.s <;> cases overB (mkX rs r head now).c now <;> cases fitB r.p (mkX rs r head now).k.p <;> rfl
end Go.Proofs.YtgfoaopfdpclhaaGreatDoor
