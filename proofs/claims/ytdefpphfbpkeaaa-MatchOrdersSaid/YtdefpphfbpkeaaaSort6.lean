/-
  The walk: a row of items is sorted, equals staying in their order.
-/
import Derived.Test.YtdefpphfbpkeaaaSort5
namespace Go.Proofs.Ytdefpphfbpkeaaa
open Go.RowKit
set_option linter.unusedVariables false

/-- Sorting by insertion, an empty block too. -/
theorem isort_all (g n c B a b : Nat) (W w : World) (P S Q : List It) (hr : SW3 W B g (P ++ S ++ Q) w) (hn : (P ++ S ++ Q).length = n) (hc : n ≤ c) (hcm : c ≤ maxLen) (hn1 : n ≤ 1000000) (hB : B ≤ g) (hlim : Lim (P ++ S ++ Q)) (ha : P.length = a) (hb : a + S.length = b) :
    Calls Try.prog 77 #[.slice (some ⟨g, 0, none⟩) n c, .int .i64 a, .int .i64 b, fS] w (SymPost W B g P S Q) := by
  rcases Nat.eq_zero_or_pos S.length with e | e
  · have e0 : S = [] := List.eq_nil_of_length_eq_zero e
    subst e0
    obtain rfl : a = b := by simpa using hb
    refine (isort_none _ n c a w (by simp at hn; omega)).mono ?_
    rintro e w1 ⟨rfl, rfl⟩
    exact ⟨[], rfl, hr, List.Pairwise.nil, StEq.refl _, rfl⟩
  · refine (isort_any g n c B a b W w P S Q hr.1 hn hc hcm hn1 hB hr.2.1 hr.2.2 hlim e ha hb).mono ?_
    rintro e w1 ⟨R, rfl, h1, h2, h3, h4, h5, h6⟩
    exact ⟨R, rfl, ⟨h1, h5, h6⟩, h2, h3, h4⟩
theorem sym_any (g n c B a m b : Nat) (W w : World) (P U V Q : List It) (hr : SW3 W B g (P ++ U ++ V ++ Q) w) (hn : (P ++ U ++ V ++ Q).length = n) (hc : n ≤ c) (hcm : c ≤ maxLen) (hn1 : n ≤ 1000000) (hB : B ≤ g) (ha : P.length = a) (hm : a + U.length = m) (hb : m + V.length = b) (hlim : Lim (P ++ U ++ V ++ Q)) (hU : Srt befI U) (hV : Srt befI V) (hU0 : 0 < U.length) (hV0 : 0 < V.length) :
    Calls Try.prog 78 #[.slice (some ⟨g, 0, none⟩) n c, .int .i64 a, .int .i64 m, .int .i64 b, fS] w (SymPost W B g P (U ++ V) Q) :=
  sym_all (b - a) g n c B a m b W w P U V Q (Nat.le_refl _) hr hn hc hcm hn1 hB ha hm hb hlim hU hV hU0 hV0

set_option maxRecDepth 20000 in
set_option maxHeartbeats 8000000 in
theorem stable_any (g n c B : Nat) (W w : World) (L : List It) (hr : SW3 W B g L w) (hn : L.length = n) (hc : n ≤ c) (hcm : c ≤ maxLen) (hn1 : n ≤ 100000) (hB : B ≤ g) (hlim : Lim L) :
    Calls Try.prog 65 #[.slice (some ⟨g, 0, none⟩) n c, .int .i64 n, fS] w (SymPost W B g [] L []) := by
  replace hn := Lib.hid hn
  go_enter Try.func65, Try.ntmps65
  go_wp2
  go_loopw [7, 8] (fun av bv wr => ∃ (a q : Nat) (D T : List It), av = .int .i64 a ∧ bv = .int .i64 (a + 20 : Nat) ∧ a ≤ n ∧ Hid (a = q * 20) ∧ Hid (D.length = a) ∧ Hid (a + T.length = n) ∧ Hid (Bl befI 20 D) ∧ Hid (StEq befI L (D ++ T)) ∧ SW3 W B g (D ++ T) wr) (fun _ bv _ => n + 21 - (intOf bv).toNat)
  case atStart => exact ⟨0, 0, [], L, rfl, rfl, Nat.zero_le _, rfl, rfl, by show _ = _; rw [Nat.zero_add]; exact hn.out, bl_nil _, StEq.refl _, hr⟩
  case round =>
    obtain ⟨a, q, D, T, rfl, rfl, han, haq, hD, hT, hBl, hst, hrw⟩ := hrel
    clear hr
    have hlimDT : Hid (Lim (D ++ T)) := hlim.steq hst.out
    by_cases hlt : a + 20 ≤ n
    · have f1 : T = T.take 20 ++ T.drop 20 := (List.take_append_drop _ _).symm
      have f2 : (T.take 20).length = 20 := by have := hT.out; rw [List.length_take]; omega
      have f3 : a + 20 + (T.drop 20).length = n := by have := hT.out; rw [List.length_drop]; omega
      generalize T.take 20 = S at *
      generalize T.drop 20 = T2 at *
      subst f1
      replace f2 := Lib.hid f2
      replace f3 := Lib.hid f3
      have his := Lib.hid (isort_all g n c B a (a + 20) W wr D S T2 (by rw [List.append_assoc]; exact hrw) (by have h1 := hD.out; have h2 := f2.out; have h3 := f3.out; simp; omega) hc hcm (by omega) hB (by rw [List.append_assoc]; exact hlimDT.out) hD.out (by rw [f2.out]))
      have hlti : (a : Int) + 20 ≤ n := by omega
      go_wp2_with fail
      refine his.out.mono ?_
      rintro e w1 ⟨R, rfl, h1, h2, h3, h4⟩
      replace h4 := Lib.hid h4
      clear hrw his
      go_wp2
      go_roundw
      case rel => exact ⟨a + 20, q + 1, D ++ R, T2, by go_num, by go_num, hlt, by show _ = _; have := haq.out; omega, by show _ = _; have h1 := hD.out; have h2 := h4.out; have h3 := f2.out; rw [List.length_append]; omega, f3.out, bl_app (q := q) (by rw [hD.out]; exact haq.out) hBl.out (bl_short (by have h2 := h4.out; have h3 := f2.out; omega) h2), by
        refine hst.out.trans ?_
        rw [List.append_assoc]
        exact (StEq.refl D).app (h3.app (StEq.refl T2)), h1⟩
      case measure => simp [intOf]; omega
    · have hTl : Hid (T.length < 20) := by show _ < _; have := hT.out; omega
      have his := Lib.hid (isort_all g n c B a n W wr D T [] (by rw [List.append_nil]; exact hrw) (by have h1 := hD.out; have h2 := hT.out; simp; omega) hc hcm (by omega) hB (by rw [List.append_nil]; exact hlimDT.out) hD.out hT.out)
      have hlti : ¬ ((a : Int) + 20 ≤ n) := by omega
      go_wp2_with fail
      refine his.out.mono ?_
      rintro e w1 ⟨R, rfl, h1, h2, h3, h4⟩
      have hI : Hid (Bl befI 20 (D ++ R) ∧ StEq befI L (D ++ R) ∧ (D ++ R).length = n) := by
        refine ⟨bl_app (q := q) (by rw [hD.out]; exact haq.out) hBl.out (bl_short (by rw [h4]; exact Nat.le_of_lt hTl.out) h2), hst.out.trans ((StEq.refl D).app h3), ?_⟩
        have h1 := hD.out; have h2 := hT.out
        rw [List.length_append]; omega
      rw [List.append_nil] at h1
      generalize D ++ R = M at *
      clear hrw his h4 h2 h3 hTl hlimDT haq hD hT hBl hst hlt hlti han
      go_wp2
      go_loopw [6] (fun bv wr => ∃ (s : Nat) (M : List It), bv = .int .i64 s ∧ 20 ≤ s ∧ s ≤ 200000 ∧ Hid (Bl befI s M ∧ StEq befI L M ∧ M.length = n) ∧ SW3 W B g M wr) (fun bv _ => n - (intOf bv).toNat)
      case atStart => exact ⟨20, M, rfl, by omega, by omega, hI, h1⟩
      case round =>
        obtain ⟨s, M, rfl, hs, hs2, hI, hrw⟩ := hrel
        clear h1
        by_cases hsn : s < n
        · have hs0 : 0 < s := by omega
          obtain ⟨z, hz⟩ : ∃ z : Nat, z = 2 * s := ⟨_, rfl⟩
          have e1 : (2 : Int) * s = (z : Nat) := by omega
          have e2 : (s : Int) * 2 = (z : Nat) := by omega
          have hzs : 20 ≤ z := by omega
          have hzs2 : z ≤ 200000 := by omega
          replace hz := Lib.hid hz
          have hlimM : Hid (Lim M) := hlim.steq hI.out.2.1
          go_wp2
          go_loopw [7, 8] (fun av bv wr => ∃ (a b q : Nat) (D T : List It), av = .int .i64 a ∧ bv = .int .i64 b ∧ a ≤ n ∧ Hid (b = a + z) ∧ Hid (a = q * z) ∧ Hid (D.length = a) ∧ Hid (a + T.length = n) ∧ Hid (Bl befI z D) ∧ Hid (Bl befI s T) ∧ Hid (StEq befI L (D ++ T)) ∧ SW3 W B g (D ++ T) wr) (fun av _ _ => n + 1 - (intOf av).toNat)
          case atStart => exact ⟨0, z, 0, [], M, rfl, rfl, Nat.zero_le _, by show _ = _; omega, by show _ = _; omega, rfl, by show _ = _; rw [Nat.zero_add]; exact hI.out.2.2, bl_nil _, hI.out.1, hI.out.2.1, hrw⟩
          case round =>
            obtain ⟨a, b, q, D, T, rfl, rfl, han, hba, haq, hD, hT, hBD, hBT, hst, hrw'⟩ := hrel
            clear hrw hI hlimM
            have hlimDT : Hid (Lim (D ++ T)) := hlim.steq hst.out
            by_cases hlt : b ≤ n
            · obtain ⟨m, hm⟩ : ∃ m : Nat, m = a + s := ⟨_, rfl⟩
              have em : (a : Int) + s = (m : Nat) := by omega
              obtain ⟨U, V, T2, fT, fU, fV⟩ : ∃ U V T2, T = U ++ V ++ T2 ∧ U.length = s ∧ V.length = s := by
                have h1 := hT.out; have h2 := hba.out; have h3 := hz.out
                refine ⟨T.take s, (T.drop s).take s, (T.drop s).drop s, ?_, ?_, ?_⟩
                · rw [List.append_assoc, List.take_append_drop, List.take_append_drop]
                · rw [List.length_take]; omega
                · rw [List.length_take, List.length_drop]; omega
              subst fT
              have hcut1 := bl_cut fU (by have := hBT.out; rw [List.append_assoc] at this; exact this)
              have hcut2 := bl_cut fV hcut1.2
              have hbn2 : Hid (b + T2.length = n) := by show _ = _; have h1 := hT.out; have h2 := hba.out; simp at h1; omega
              have hsym := Lib.hid (sym_any g n c B a m b W wr D U V T2 (by have := hrw'; simpa using this) (by have h1 := hD.out; have h2 := hT.out; simp at h2 ⊢; omega) hc hcm (by omega) hB hD.out (by have := hm; have := fU; omega) (by have h2 := hba.out; have h3 := hz.out; omega) (by have := hlimDT.out; simpa using this) hcut1.1 hcut2.1 (by omega) (by omega))
              have hT2 := Lib.hid hcut2.2
              replace fU := Lib.hid fU
              replace fV := Lib.hid fV
              replace hm := Lib.hid hm
              obtain ⟨y, hy⟩ : ∃ y : Nat, y = b + z := ⟨_, rfl⟩
              have hb3 : (b : Int) + z = (y : Nat) := by omega
              replace hy := Lib.hid hy
              have hbb : b ≤ n := hlt
              clear hcut1 hcut2 hrw' hBT
              go_wp2_with fail
              refine hsym.out.mono ?_
              rintro e w1 ⟨R, rfl, h1, h2, h3, h4⟩
              replace h4 := Lib.hid h4
              clear hsym
              go_wp2
              go_roundw
              case rel => exact ⟨b, y, q + 1, D ++ R, T2, rfl, rfl, hbb, hy.out, by show _ = _; have h1 := haq.out; have h2 := hba.out; rw [Nat.add_mul, Nat.one_mul]; omega, by show _ = _; have h1 := hD.out; have h2 := h4.out; have h3 := fU.out; have h5 := fV.out; have h6 := hba.out; have h7 := hz.out; simp at h2 ⊢; omega, hbn2.out, bl_app (q := q) (by rw [hD.out]; exact haq.out) hBD.out (bl_short (by have h2 := h4.out; have h3 := fU.out; have h5 := fV.out; have h7 := hz.out; simp at h2; omega) h2), hT2.out, by
                refine hst.out.trans ?_
                have := (StEq.refl D).app (h3.app (StEq.refl T2))
                simpa using this, h1⟩
              case measure => simp [intOf]; have := hba.out; omega
            · obtain ⟨m, hm⟩ : ∃ m : Nat, m = a + s := ⟨_, rfl⟩
              have em : (a : Int) + s = (m : Nat) := by omega
              replace hm := Lib.hid hm
              by_cases hmn : m < n
              · obtain ⟨U, V, fT, fU⟩ : ∃ U V, T = U ++ V ∧ U.length = s := by
                  have h1 := hT.out; have h2 := hm.out
                  exact ⟨T.take s, T.drop s, (List.take_append_drop _ _).symm, by rw [List.length_take]; omega⟩
                subst fT
                have hcut1 := bl_cut fU hBT.out
                have hV : m + V.length = n := by have h1 := hT.out; have h2 := hm.out; simp at h1; omega
                have hsym := Lib.hid (sym_any g n c B a m n W wr D U V [] (by have := hrw'; simpa using this) (by have h1 := hD.out; have h2 := hT.out; simp at h2 ⊢; omega) hc hcm (by omega) hB hD.out (by have := hm.out; omega) hV (by have := hlimDT.out; simpa using this) hcut1.1 (bl_srt (by have h1 := hba.out; have h2 := hm.out; have h3 := hz.out; omega) hcut1.2) (by omega) (by omega))
                replace hV := Lib.hid hV
                replace fU := Lib.hid fU
                clear hcut1 hrw' hBT
                go_wp2_with fail
                refine hsym.out.mono ?_
                rintro e w1 ⟨R, rfl, h1, h2, h3, h4⟩
                replace h4 := Lib.hid h4
                rw [List.append_nil] at h1
                clear hsym
                go_wp2
                go_roundw
                case rel => exact ⟨z, D ++ R, rfl, hzs, hzs2, ⟨bl_app (q := q) (by rw [hD.out]; exact haq.out) hBD.out (bl_short (by have h2 := h4.out; have h3 := fU.out; have h5 := hV.out; have h6 := hm.out; have h7 := hba.out; have h8 := hz.out; simp at h2; omega) h2), hst.out.trans ((StEq.refl D).app h3), by have h1 := hD.out; have h2 := h4.out; have h3 := hT.out; simp at h2 h3 ⊢; omega⟩, h1⟩
                case measure => simp [intOf]; have := hz.out; omega
              · have hfin : Hid (Bl befI z (D ++ T) ∧ StEq befI L (D ++ T) ∧ (D ++ T).length = n) := by
                  have h1 := hT.out; have h2 := hm.out; have h3 := hz.out; have h4 := hba.out
                  exact ⟨bl_app (q := q) (by rw [hD.out]; exact haq.out) hBD.out (bl_short (by omega) (bl_srt (by omega) hBT.out)), hst.out, by have h1 := hD.out; rw [List.length_append]; omega⟩
                have hrw2 := Lib.hid hrw'
                clear hrw'
                go_wp2
                go_roundw
                case rel => exact ⟨z, D ++ T, rfl, hzs, hzs2, hfin, hrw2.out⟩
                case measure => simp [intOf]; have := hz.out; omega
        · go_wp2
          go_end0
          exact ⟨M, rfl, by simpa using hrw, bl_srt (by rw [hI.out.2.2]; omega) hI.out.1, hI.out.2.1, by rw [hI.out.2.2, hn.out]⟩
end Go.Proofs.Ytdefpphfbpkeaaa
