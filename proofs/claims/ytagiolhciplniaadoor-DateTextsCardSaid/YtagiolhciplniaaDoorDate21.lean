/-
  A time's text parsed: plain laws.
-/
import Derived.Test.YtagiolhciplniaaDoorDate16
namespace Go.Proofs.YtagiolhciplniaaDoor
set_option linter.unusedVariables false

theorem two_all : ∀ n : Fin 100, digitB ((twoL (n : Nat)).getD 0 0) = true ∧ digitB ((twoL (n : Nat)).getD 1 0) = true ∧ ((twoL (n : Nat)).getD 0 0).toNat = 48 + n / 10 ∧ ((twoL (n : Nat)).getD 1 0).toNat = 48 + n % 10 ∧ numV (twoL (n : Nat)) = (n : Nat) := by decide +kernel
theorem two_parts {n : Int} (h0 : 0 ≤ n) (h1 : n ≤ 99) : ∃ a b : UInt8, twoL n = [a, b] ∧ digitB a = true ∧ digitB b = true ∧ (a.toNat : Int) = 48 + n / 10 ∧ (b.toNat : Int) = 48 + n % 10 ∧ numV [a, b] = n := by
  obtain ⟨k, rfl⟩ := Int.eq_ofNat_of_zero_le h0
  obtain ⟨e1, e2, e3, e4, e5⟩ := two_all ⟨k, by omega⟩
  exact ⟨_, _, rfl, e1, e2, by simp only at e3; exact (congrArg (Int.ofNat ·) e3).trans (by simp), by simp only at e4; exact (congrArg (Int.ofNat ·) e4).trans (by simp), e5⟩
theorem dig_nodelim {a : UInt8} (h : digitB a = true) : delimB a = false := by
  unfold digitB at h
  unfold delimB
  simp only [decide_eq_true_eq] at h
  exact decide_eq_false (by omega)
theorem field_two {n : Int} (h0 : 0 ≤ n) (h1 : n ≤ 99) (r : List UInt8) (hr : r = [] ∨ digitB (r.getD 0 0) = false) : fieldT (twoL n ++ r) 1 2 = (n, r, true) := by
  obtain ⟨a, b, e, ha, hb, _, _, hv⟩ := two_parts h0 h1
  rw [e]
  have hd : digN ([a, b] ++ r) = 2 := by
    cases r with
    | nil => simp [digN, ha, hb]
    | cons c r =>
      have hc : digitB c = false := by
        rcases hr with hr | hr
        · cases hr
        · exact hr
      simp [digN, ha, hb, hc]
  unfold fieldT
  rw [hd, if_neg (by omega)]
  simp [hv]
theorem field_four {a b : Int} (h0 : 0 ≤ a) (h1 : a ≤ 99) (h2 : 0 ≤ b) (h3 : b ≤ 99) : fieldT (twoL a ++ twoL b) 2 4 = (a * 100 + b, [], true) ∧ (fieldT (twoL a ++ twoL b) 1 2).2.2 = false := by
  obtain ⟨c1, c2, e1, d1, d2, v1, v2, _⟩ := two_parts h0 h1
  obtain ⟨c3, c4, e2, d3, d4, v3, v4, _⟩ := two_parts h2 h3
  rw [e1, e2]
  have hd : digN ([c1, c2] ++ [c3, c4]) = 4 := by simp [digN, d1, d2, d3, d4]
  constructor
  · unfold fieldT
    rw [hd, if_neg (by omega)]
    have hv : numV [c1, c2, c3, c4] = a * 100 + b := by
      rw [numV_digits (by simp) (by simp [digN, d1, d2, d3, d4])]
      simp [valTo]
      rw [v1, v2, v3, v4]
      omega
    simp [hv]
  · unfold fieldT
    rw [hd, if_pos (by omega)]
theorem clock_hms {h m s : Int} (h0 : 0 ≤ h) (h1 : h ≤ 23) (m0 : 0 ≤ m) (m1 : m ≤ 59) (s0 : 0 ≤ s) (s1 : s ≤ 59) : clockT (twoL h ++ (58 :: (twoL m ++ (58 :: twoL s)))) = some (h * 3600 + m * 60 + s, true) := by
  have f1 := field_two h0 (by omega) (58 :: (twoL m ++ (58 :: twoL s))) (.inr (show digitB 58 = false from by decide))
  have f2 := field_two m0 (by omega) (58 :: twoL s) (.inr (show digitB 58 = false from by decide))
  have f3 := field_two s0 (by omega) [] (.inl rfl)
  rw [List.append_nil] at f3
  unfold clockT
  rw [clk_go (by rw [f1]) (.inr (by rw [f1]; rfl)), f1]
  simp only [List.drop_succ_cons, List.drop_zero]
  rw [clk_go (by rw [f2]) (.inr (by rw [f2]; rfl)), f2]
  simp only [List.drop_succ_cons, List.drop_zero]
  rw [clk_go (by rw [f3]) (.inl rfl), f3, clkGo]
  have a1 : decide (h < 60) = true := decide_eq_true (by omega)
  have a2 : decide (m < 60) = true := decide_eq_true (by omega)
  have a3 : decide (s < 60) = true := decide_eq_true (by omega)
  have a4 : decide (h < 24) = true := decide_eq_true (by omega)
  simp only [a1, a2, a3, a4]
  congr 2
  omega
theorem clock_two {n : Int} (h0 : 0 ≤ n) (h1 : n ≤ 99) : clockT (twoL n) = none := by
  have f := field_two h0 h1 [] (.inl rfl)
  rw [List.append_nil] at f
  unfold clockT
  exact clk_col (by decide) (by rw [f]; rfl)
theorem clock_four {a b : Int} (h0 : 0 ≤ a) (h1 : a ≤ 99) (h2 : 0 ≤ b) (h3 : b ≤ 99) : clockT (twoL a ++ twoL b) = none := by
  unfold clockT
  exact clk_no (field_four h0 h1 h2 h3).2
/-- A part that no delimiter breaks, and what stands behind it. -/
theorem tok_block (a cur r : List UInt8) (ha : ∀ x ∈ a, delimB x = false) : tokGo cur (a ++ r) = tokGo (cur ++ a) r := by
  induction a generalizing cur with
  | nil => simp
  | cons c a ih =>
    rw [List.cons_append, tokGo, if_neg (by rw [ha c (by simp)]; decide), ih _ (fun x hx => ha x (by simp [hx]))]
    simp
theorem tok_part (a r : List UInt8) (c : UInt8) (ha : ∀ x ∈ a, delimB x = false) (hne : a ≠ []) (hc : delimB c = true) : tokGo [] (a ++ c :: r) = a :: tokGo [] r := by
  rw [tok_block a [] _ ha, List.nil_append, tokGo, if_pos hc, if_neg (by simpa using hne)]
theorem tok_last (a : List UInt8) (ha : ∀ x ∈ a, delimB x = false) (hne : a ≠ []) : tokGo [] a = [a] := by
  have := tok_block a [] [] ha
  rw [List.append_nil, List.nil_append] at this
  rw [this, tokGo, if_neg (by simpa using hne)]
theorem two_nodelim {n : Int} (h0 : 0 ≤ n) (h1 : n ≤ 99) : ∀ x ∈ twoL n, delimB x = false := by
  obtain ⟨a, b, e, ha, hb, _⟩ := two_parts h0 h1
  rw [e]
  intro x hx
  simp only [List.mem_cons, List.not_mem_nil, or_false] at hx
  rcases hx with rfl | rfl
  · exact dig_nodelim ha
  · exact dig_nodelim hb
theorem wk_nodelim (q : Nat) (h : q < 7) : (∀ x ∈ wkN.getD q [], delimB x = false) ∧ wkN.getD q [] ≠ [] ∧ tokStep fd0 (wkN.getD q []) = fd0 := by
  match q, h with
  | 0, _ | 1, _ | 2, _ | 3, _ | 4, _ | 5, _ | 6, _ => exact ⟨by decide, by decide, by show _ = _; kernel_rfl⟩
  | n + 7, h => omega
theorem mon_nodelim (k : Nat) (h : k < 12) : (∀ x ∈ capL (monN.getD k []), delimB x = false) ∧ capL (monN.getD k []) ≠ [] ∧ clockT (capL (monN.getD k [])) = none ∧ monthI (capL (monN.getD k [])) = k + 1 := by
  match k, h with
  | 0, _ | 1, _ | 2, _ | 3, _ | 4, _ | 5, _ | 6, _ | 7, _ | 8, _ | 9, _ | 10, _ | 11, _ => exact ⟨by decide, by decide, by decide +kernel, by decide +kernel⟩
  | n + 12, h => omega
theorem tokens_text {wn mn : List UInt8} {y d R : Int} (hw : ∀ x ∈ wn, delimB x = false) (hw2 : wn ≠ []) (hmn : ∀ x ∈ capL mn, delimB x = false) (hmn2 : capL mn ≠ []) (hy1 : 0 ≤ y) (hy2 : y ≤ 9999) (hd1 : 0 ≤ d) (hd2 : d ≤ 99) (hR1 : 0 ≤ R) (hR2 : R < 86400) :
    tokensL (textOf wn mn y d R) = [wn, twoL d, capL mn, twoL (y / 100) ++ twoL (y % 100), twoL (R / 3600) ++ (58 :: (twoL (R / 60 % 60) ++ (58 :: twoL (R % 60)))), [71, 77, 84]] := by
  unfold tokensL textOf
  have e : wn ++ [44, 32] ++ twoL d ++ [32] ++ capL mn ++ [32] ++ twoL (y / 100) ++ twoL (y % 100) ++ [32] ++ twoL (R / 3600) ++ [58] ++ twoL (R / 60 % 60) ++ [58] ++ twoL (R % 60) ++ [32, 71, 77, 84] =
      wn ++ (44 :: (32 :: (twoL d ++ (32 :: (capL mn ++ (32 :: ((twoL (y / 100) ++ twoL (y % 100)) ++ (32 :: ((twoL (R / 3600) ++ (58 :: (twoL (R / 60 % 60) ++ (58 :: twoL (R % 60))))) ++ (32 :: [71, 77, 84])))))))))) := by simp
  rw [e]
  have hne : ∀ n : Int, twoL n ≠ [] := fun n => by unfold twoL; simp
  have n1 := two_nodelim (n := y / 100) (by omega) (by omega)
  have n2 := two_nodelim (n := y % 100) (by omega) (by omega)
  have n3 := two_nodelim (n := R / 3600) (by omega) (by omega)
  have n4 := two_nodelim (n := R / 60 % 60) (by omega) (by omega)
  have n5 := two_nodelim (n := R % 60) (by omega) (by omega)
  rw [tok_part wn _ 44 hw hw2 (by decide)]
  rw [show ∀ r : List UInt8, tokGo [] (32 :: r) = tokGo [] r from fun r => by rw [tokGo, if_pos (by decide)]; rfl]
  rw [tok_part (twoL d) _ 32 (two_nodelim hd1 hd2) (hne _) (by decide)]
  rw [tok_part (capL mn) _ 32 hmn hmn2 (by decide)]
  rw [tok_part (twoL (y / 100) ++ twoL (y % 100)) _ 32 (fun x hx => by rcases List.mem_append.1 hx with hx | hx; exact n1 x hx; exact n2 x hx) (by simp [hne]) (by decide)]
  rw [tok_part (twoL (R / 3600) ++ (58 :: (twoL (R / 60 % 60) ++ (58 :: twoL (R % 60))))) _ 32 (fun x hx => by
    rcases List.mem_append.1 hx with hx | hx
    · exact n3 x hx
    · rcases List.mem_cons.1 hx with rfl | hx
      · decide
      · rcases List.mem_append.1 hx with hx | hx
        · exact n4 x hx
        · rcases List.mem_cons.1 hx with rfl | hx
          · decide
          · exact n5 x hx) (by simp) (by decide)]
  rw [tok_last [71, 77, 84] (by decide) (by decide)]
/-- A time's text is parsed as that time. -/
theorem date_text {n : Int} (h1 : -134774 ≤ n / 86400) (h2 : n / 86400 ≤ 2932896) : ∃ l, timeT n = (l, 0) ∧ dateT l = (n, 0) ∧ l.length = 29 ∧ l.drop 25 = [32, 71, 77, 84] := by
  obtain ⟨hc0, hrt, hdd⟩ := days_civil h1 h2
  obtain ⟨⟨hy1, hy2⟩, ⟨hm1, hm2⟩, hd1, hd2⟩ := rightB_iff.1 hrt
  have hlb := longI_bd (civilT (n / 86400)).1 (civilT (n / 86400)).2.1
  have hT : timeT n = (textOf (wkN.getD (weekI (n / 86400)).toNat []) (monN.getD ((civilT (n / 86400)).2.1 - 1).toNat []) (civilT (n / 86400)).1 (civilT (n / 86400)).2.2.1 (n % 86400), 0) := if_neg (by omega)
  have hwk := (week_mod (n / 86400)).2
  have hR1 : 0 ≤ n % 86400 := by omega
  have hR2 : n % 86400 < 86400 := by omega
  have hn : n = n / 86400 * 86400 + n % 86400 := by omega
  generalize n % 86400 = R at *
  generalize n / 86400 = D at *
  generalize civilT D = cv at *
  obtain ⟨y, m, d, ee⟩ := cv
  simp only at hc0 hy1 hy2 hm1 hm2 hd1 hd2 hlb hT hrt hdd
  obtain ⟨q, hq, hq7⟩ : ∃ q : Nat, weekI D = q ∧ q < 7 := ⟨(weekI D).toNat, by omega, by omega⟩
  rw [hq, show ((q : Int)).toNat = q from rfl] at hT
  obtain ⟨k, hk, hk12⟩ : ∃ k : Nat, m = k + 1 ∧ k < 12 := ⟨(m - 1).toNat, by omega, by omega⟩
  subst hk
  rw [show ((k : Int) + 1 - 1).toNat = k by omega] at hT
  obtain ⟨w1, w2, w3⟩ := wk_nodelim q hq7
  obtain ⟨m1, m2, m3, m4⟩ := mon_nodelim k hk12
  obtain ⟨wa, wb, wc, hwn⟩ := wk_form q hq7
  obtain ⟨ma, mb, mc, hmn, _⟩ := mon_form k hk12
  refine ⟨_, hT, ?_, ?_, ?_⟩
  · unfold dateT fdOf
    rw [tokens_text w1 w2 m1 m2 (by omega) (by omega) (by omega) (by omega) hR1 hR2]
    have f2 := field_two (n := d) (by omega) (by omega) [] (.inl rfl)
    rw [List.append_nil] at f2
    have c2 := clock_two (n := d) (by omega) (by omega)
    obtain ⟨f4, f4'⟩ := field_four (a := y / 100) (b := y % 100) (by omega) (by omega) (by omega) (by omega)
    have c4 := clock_four (a := y / 100) (b := y % 100) (by omega) (by omega) (by omega) (by omega)
    have c5 := clock_hms (h := R / 3600) (m := R / 60 % 60) (s := R % 60) (by omega) (by omega) (by omega) (by omega) (by omega) (by omega)
    have hyy : y / 100 * 100 + y % 100 = y := by omega
    have hRR : R / 3600 * 3600 + R / 60 % 60 * 60 + R % 60 = R := by omega
    rw [hyy] at f4
    rw [hRR] at c5
    have q5 := (clkR_some c5).1
    generalize twoL (R / 3600) ++ (58 :: (twoL (R / 60 % 60) ++ (58 :: twoL (R % 60)))) = hms at *
    generalize twoL (y / 100) ++ twoL (y % 100) = yyyy at *
    generalize twoL d = dd at *
    generalize capL (monN.getD k []) = mon at *
    generalize wkN.getD q [] = wn at *
    have s2 : tokStep fd0 dd = ⟨-1, d, -1, -1, true⟩ := by unfold tokStep; rw [if_neg (by rw [c2]; simp), if_pos ⟨by decide, by rw [f2]⟩, f2]; rfl
    have s3 : tokStep ⟨-1, d, -1, -1, true⟩ mon = ⟨-1, d, k + 1, -1, true⟩ := by unfold tokStep; rw [if_neg (by rw [m3]; simp), if_neg (by simp; omega), if_pos ⟨show (-1 : Int) < 0 from by decide, by rw [m4]; omega⟩, m4]
    have s4 : tokStep ⟨-1, d, k + 1, -1, true⟩ yyyy = ⟨-1, d, k + 1, y, true⟩ := by
      unfold tokStep
      rw [if_neg (by rw [c4]; simp), if_neg (by simp; omega), if_neg (by simp; omega), if_pos ⟨by simp, by rw [f4]⟩, f4]
    have s5 : tokStep ⟨-1, d, k + 1, y, true⟩ hms = ⟨R, d, k + 1, y, true⟩ := by
      unfold tokStep
      rw [if_pos ⟨by simp, by rw [c5]; rfl⟩, q5]
    have hfull : fdFull ⟨R, d, k + 1, y, true⟩ = true := by
      unfold fdFull
      simp only [Bool.and_eq_true, decide_eq_true_eq]
      omega
    have s6 := fd_stay hfull [71, 77, 84]
    simp only [List.foldl_cons, List.foldl_nil]
    rw [w3, s2, s3, s4, s5, s6]
    unfold parseD
    rw [if_neg (by rw [hfull]; simp)]
    have hfy : fullI y = y := by unfold fullI; rw [if_neg (by omega), if_neg (by omega)]
    simp only [hfy]
    rw [if_pos hrt, hdd, ← hn]
  · unfold textOf
    rw [hwn, hmn]
    simp [capL]
  · unfold textOf
    rw [hwn, hmn]
    simp [capL, twoL]
end Go.Proofs.YtagiolhciplniaaDoor
