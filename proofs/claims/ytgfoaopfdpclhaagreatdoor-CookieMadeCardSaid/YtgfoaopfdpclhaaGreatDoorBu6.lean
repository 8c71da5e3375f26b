/-
  Joined texts: Date11.
-/
import Derived.Test.YtgfoaopfdpclhaaGreatDoorBu5
namespace Go.Proofs.YtgfoaopfdpclhaaGreatDoor
open Go.RowKit
set_option linter.unusedVariables false
set_option maxRecDepth 100000

/-- What a state may hold. -/
def FdOk (f : Fd) : Prop := (-1 ≤ f.t ∧ f.t ≤ 10000000) ∧ (-1 ≤ f.d ∧ f.d ≤ 99) ∧ (-1 ≤ f.m ∧ f.m ≤ 12) ∧ (-1 ≤ f.y ∧ f.y ≤ 9999)
def fdFull (f : Fd) : Bool := decide (0 ≤ f.t) && decide (0 ≤ f.d) && decide (0 ≤ f.m) && decide (0 ≤ f.y)
def fd0 : Fd := ⟨-1, -1, -1, -1, true⟩
theorem clk_bd (r : Nat) (l : List UInt8) (o : Int) (rt : Bool) (B : Int) (ho : 0 ≤ o ∧ o ≤ B) : ∀ p, clkGo r l o rt = some p → 0 ≤ p.1 ∧ p.1 ≤ (B + 2) * 60 ^ r + 39 * (60 ^ r - 1) := by
  induction r generalizing l o rt B with
  | zero =>
    intro p hp
    unfold clkGo at hp
    cases hp
    simp
    omega
  | succ r ih =>
    intro p hp
    unfold clkGo at hp
    split at hp
    · rename_i hf
      split at hp
      · have hb := field_bd hf
        have := ih _ _ _ (B * 60 + 99) ⟨by omega, by omega⟩ p hp
        refine ⟨this.1, ?_⟩
        have h2 := this.2
        have hpw : (60 : Int) ^ (r + 1) = 60 ^ r * 60 := by rw [Int.pow_succ]
        have h60 : (1 : Int) ≤ 60 ^ r := Int.pow_pos (by decide)
        rw [hpw]
        generalize (60 : Int) ^ r = q at *
        have e1 : (B * 60 + 99 + 2) * q = B * q * 60 + 101 * q := by rw [show B * 60 + 99 + 2 = B * 60 + 101 by omega, Int.add_mul]; congr 1; rw [Int.mul_assoc, Int.mul_comm 60 q, ← Int.mul_assoc]
        have e2 : (B + 2) * (q * 60) = B * q * 60 + 120 * q := by rw [← Int.mul_assoc, Int.add_mul, Int.add_mul]; omega
        rw [e1] at h2
        rw [e2]
        generalize B * q * 60 = z at *
        omega
      · cases hp
    · cases hp
theorem clock_bd {l : List UInt8} (h : (clockT l).isSome = true) : 0 ≤ (clkR l).1 ∧ (clkR l).1 ≤ 10000000 := by
  obtain ⟨p, hp⟩ := Option.isSome_iff_exists.1 h
  have := clk_bd 3 l 0 true 0 ⟨Int.le_refl _, Int.le_refl _⟩ p hp
  have e : clkR l = p := by unfold clkR; rw [hp]; rfl
  rw [e]
  simp at this
  omega
theorem fd_step {f : Fd} (h : FdOk f) (l : List UInt8) : FdOk (tokStep f l) := by
  obtain ⟨h1, h2, h3, h4⟩ := h
  unfold tokStep
  split
  · rename_i hc
    have := clock_bd hc.2
    exact ⟨⟨by show (-1 : Int) ≤ (clkR l).1; omega, this.2⟩, h2, h3, h4⟩
  · split
    · rename_i hc
      have := field_bd hc.2
      exact ⟨h1, ⟨by show (-1 : Int) ≤ (fieldT l 1 2).1; omega, this.2⟩, h3, h4⟩
    · split
      · have := month_bd l
        exact ⟨h1, h2, ⟨by show (-1 : Int) ≤ monthI l; omega, this.2⟩, h4⟩
      · split
        · rename_i hc
          have := field_bd4 hc.2
          exact ⟨h1, h2, h3, ⟨by show (-1 : Int) ≤ (fieldT l 2 4).1; omega, this.2⟩⟩
        · exact ⟨h1, h2, h3, h4⟩
theorem fd_stay {f : Fd} (h : fdFull f = true) (l : List UInt8) : tokStep f l = f := by
  unfold fdFull at h
  simp only [Bool.and_eq_true, decide_eq_true_eq] at h
  unfold tokStep
  rw [if_neg (by omega), if_neg (by omega), if_neg (by omega), if_neg (by omega)]
theorem fd_fold {f : Fd} (h : fdFull f = true) (ls : List (List UInt8)) : ls.foldl tokStep f = f := by
  induction ls with
  | nil => rfl
  | cons a r ih => rw [List.foldl_cons, fd_stay h, ih]
def fdOf (l : List UInt8) : Fd := (tokensL l).foldl tokStep fd0
/-- A date parsed: its seconds, and what is wrong with it. -/
def parseD (f : Fd) : Int × Int :=
  if !fdFull f || !f.r then (0, 1) else if rightB (fullI f.y) f.m f.d then (daysI (fullI f.y) f.m f.d * 86400 + f.t, 0) else (0, 1)
def dateT (l : List UInt8) : Int × Int := parseD (fdOf l)
theorem long_bd (y m : Int) : 28 ≤ longI y m ∧ longI y m ≤ 31 := by
  unfold longI
  repeat' split
  all_goals omega
theorem days_bd {y m d : Int} (h : rightB y m d = true) : -10000000 ≤ daysI y m d ∧ daysI y m d ≤ 10000000 := by
  unfold rightB at h
  simp only [Bool.and_eq_true, decide_eq_true_eq] at h
  have hl := long_bd y m
  unfold daysI
  by_cases h3 : m < 3
  · simp only [h3, if_true]
    omega
  · simp only [h3, if_false]
    omega

theorem tokGo_size (cur l : List UInt8) : ∀ x ∈ tokGo cur l, x.length ≤ cur.length + l.length := by
  induction l generalizing cur with
  | nil =>
    intro x hx
    unfold tokGo at hx
    split at hx
    · cases hx
    · simp at hx; subst hx; simp
  | cons c r ih =>
    intro x hx
    unfold tokGo at hx
    split at hx
    · split at hx
      · have := ih [] x hx; simp at this ⊢; omega
      · simp only [List.mem_cons] at hx
        rcases hx with rfl | hx
        · simp
        · have := ih [] x hx; simp at this ⊢; omega
    · have := ih _ x hx; simp at this ⊢; omega
theorem tokens_size (l : List UInt8) : ∀ x ∈ tokensL l, x.length ≤ l.length := fun x hx => by
  have := tokGo_size [] l x hx
  simpa using this

set_option maxRecDepth 4000 in
set_option maxHeartbeats 4000000 in
theorem parseA_any (s : ByteArray) (w : World) (hs : s.size ≤ 4294967296) (hm : Mon w) :
    Calls Tryz.prog 86 #[.string s] w fun e w' => e = .returned (.tuple #[.int .i64 (dateT s.toList).1, .int .i64 (dateT s.toList).2]) ∧ Below w.heap.size w w' := by
  have htl : (tokensL s.toList).length ≤ s.size + 1 := by unfold tokensL; rw [size_toList]; exact tokGo_len _ _
  have htk := Lib.hid (tokens_size s.toList)
  have hlen := Lib.hid (size_toList s)
  have hg := hm.1
  go_enter Tryz.func86, Tryz.ntmps86
  go_wp2
  go_step3
  go_wp2
  go_step3
  go_wp2_with fail
  refine (tokens_any s _ hs).mono ?_
  rintro e w1 ⟨A, cp, rfl, hown1, hb1⟩
  have hK1 : Blk w1 w.heap.size 118 (fdC fd0) := (Blk.new_ w 118 (fdC fd0)).below hb1
  have hbel1 := bel_call (bel_alloc (Below.refl w.heap.size w) (.cells (fdC fd0) 118)) hb1
  have hrd1 := Rd.of_own hown1
  have hsz1 : w.heap.size < w1.heap.size := hK1.lt
  have hne : ∀ b, (Value.slice A (tokensL s.toList).length cp).ownBlock = some b → some w.heap.size ≠ some b := by
    intro b hb e
    cases e
    rcases hown1.2 with ⟨h1, h2⟩ | ⟨g', cap, cur, hv, hgb, _⟩
    · rw [h1] at hb; cases hb
    · rw [hv] at hb
      have : g' = w.heap.size := by simpa [Value.ownBlock] using hb
      simp at hgb
      omega
  have hnn := Lib.hid (show fdOf s.toList = (((tokensL s.toList).drop 0).foldl tokStep fd0) from rfl)
  have hn0 := Lib.hid (show (tokensL s.toList).length = (tokensL s.toList).length from rfl)
  clear hown1 hb1
  go_wp2
  go_loopw [14] (fun i wr => ∃ (k : Nat) (f : Fd), i = .int .i64 k ∧ k ≤ (tokensL s.toList).length ∧ Blk wr w.heap.size 118 (fdC f) ∧ FdOk f ∧ w.heap.size < wr.heap.size ∧ Below w.heap.size w wr ∧ Rd wr 1 (.slice A (tokensL s.toList).length cp) (tokensL s.toList).length ((tokensL s.toList).map strV) ∧ Hid (fdOf s.toList = ((tokensL s.toList).drop k).foldl tokStep f)) (fun i _ => (tokensL s.toList).length + 1 - (intOf i).toNat)
  case atStart => exact ⟨0, fd0, rfl, by omega, hK1, ⟨by decide, by decide, by decide, by decide⟩, hsz1, hbel1, hrd1, hnn.out⟩
  case round =>
    clear hsz1 hK1 hbel1 hrd1
    obtain ⟨k, f, rfl, hk, hK, hok, hsz1, hbel, hrd, hin⟩ := hrel
    obtain ⟨t, d, m, y, r⟩ := f
    obtain ⟨hok1, hok2, hok3, hok4⟩ := hok
    simp only at hok1 hok2 hok3 hok4
    have hcs := fd_at hK
    obtain ⟨c0, c1, c2, c3, c4, cf⟩ := hcs
    simp only at c0 c1 c2 c3 c4
    have hmr := hm.below hbel hg
    by_cases hlt : k < (tokensL s.toList).length
    · have hlti : (k : Int) < (tokensL s.toList).length := by omega
      have hkt : (tokensL s.toList)[k]? = some ((tokensL s.toList).getD k []) := by rw [List.getD_eq_getElem?_getD, List.getElem?_eq_getElem hlt]; rfl
      have hts : ((tokensL s.toList).getD k []).length ≤ s.size := by rw [hlen.out]; exact htk.out _ (List.mem_of_getElem? hkt)
      have hst0 := Lib.hid (show fdOf s.toList = (((tokensL s.toList).drop (k + 1)).foldl tokStep (tokStep ⟨t, d, m, y, r⟩ ((tokensL s.toList).getD k []))) by
        rw [hin.out, List.drop_eq_getElem_cons hlt, List.foldl_cons, List.getD_eq_getElem?_getD, List.getElem?_eq_getElem hlt]; rfl)
      obtain ⟨b, off, rfl, hbl, hc⟩ := hrd.at_ (by omega)
      have hck := hc k (by simpa using hlt)
      rw [List.getElem?_map, hkt] at hck
      replace hck : wr.cell? ⟨b, off + k, none⟩ = some (.string (S ((tokensL s.toList).getD k []))) := hck
      clear hc hkt
      generalize (tokensL s.toList).getD k [] = tk at *
      have hst := hst0
      clear hst0
      by_cases h1 : 0 ≤ t
      · by_cases h2 : 0 ≤ d
        · by_cases h3 : 0 ≤ m
          · by_cases h4 : 0 ≤ y
            · have hF := Lib.hid (show dateT s.toList = parseD ⟨t, d, m, y, r⟩ from congrArg parseD (hin.out.trans (fd_fold (by simp [fdFull, h1, h2, h3, h4]) _)))
              clear hin hst hrd hmr
              cases r with
              | false =>
                have hE := Lib.hid (show dateT s.toList = (0, 1) from hF.out.trans (if_pos (by simp [fdFull, h1, h2, h3, h4])))
                clear hF
                go_wp2
                try rw [Exit.noGoto_ret]
                go_ret2
                rw [hE.out]
                exact ⟨rfl, hbel⟩
              | true =>
                have hy0 : 0 ≤ y := h4
                have hfu : fullI y ≤ 9999 + 2000 ∧ 0 ≤ fullI y := by unfold fullI; split <;> (try split) <;> omega
                have hfl := Lib.hid (show fdFull ⟨t, d, m, y, true⟩ = true by simp [fdFull, h1, h2, h3, h4])
                have hF2 := Lib.hid (show dateT s.toList = if rightB (fullI y) m d then (daysI (fullI y) m d * 86400 + t, 0) else (0, 1) from hF.out.trans (by unfold parseD; rw [hfl.out]; rfl))
                clear hF hfl
                go_wp2_with fail
                go_quiet (first | (go_at_call 114; exact Calls.quiet_of_same ((full_any y _ hy0 hok4.2).mono fun _ _ h => ⟨h.1, h.2.symm⟩)) | (go_at_call 113; exact Calls.quiet_of_same ((days_any (fullI y) m d _ (by omega) (by omega) (by omega)).mono fun _ _ h => ⟨h.1, h.2.symm⟩)))
                generalize fullI y = Y at *
                cases hR : rightB Y m d with
                | true =>
                  have hDT := Lib.hid (show daysT Y m d = (daysI Y m d, 0) by unfold daysT; rw [hR]; rfl)
                  have hE := Lib.hid (show dateT s.toList = (daysI Y m d * 86400 + t, 0) from hF2.out.trans (if_pos hR))
                  have hdb := days_bd hR
                  generalize daysI Y m d = D at *
                  clear hF2 hR
                  rw [hDT.out]
                  clear hDT
                  go_wp2
                  try rw [Exit.noGoto_ret]
                  go_ret2
                  rw [hE.out]
                  exact ⟨rfl, by first | exact hbel | exact below_drews hbel _ | exact hbel.drew⟩
                | false =>
                  have hDT := Lib.hid (show daysT Y m d = (0, 4) by unfold daysT; rw [hR]; rfl)
                  have hE := Lib.hid (show dateT s.toList = (0, 1) from hF2.out.trans (if_neg (by rw [hR]; decide)))
                  clear hF2 hR
                  rw [hDT.out]
                  clear hDT
                  go_wp2
                  try rw [Exit.noGoto_ret]
                  go_ret2
                  rw [hE.out]
                  exact ⟨rfl, by first | exact hbel | exact below_drews hbel _ | exact hbel.drew⟩
            · go_wp2_with fail
              refine (token_any t d m y r w.heap.size _ _ (by rw [S_size]; omega) hg hmr hK).mono ?_
              rintro e w2 ⟨rfl, hK2, hg2⟩
              rw [S_toList] at hK2
              have hbel2 : Below w.heap.size w w2 := hbel.grown hg2 (Nat.le_of_lt hsz1) (fun k hk => by cases hk; exact Nat.le_refl _)
              have hrd2 := hrd.kept hg2 (fun b hb => hne b hb)
              have hsz2 : w.heap.size < w2.heap.size := Nat.lt_of_lt_of_le hsz1 hg2.size
              go_wp2
              go_roundw
              case rel => exact ⟨k + 1, tokStep ⟨t, d, m, y, r⟩ tk, by go_num, by omega, hK2, fd_step ⟨hok1, hok2, hok3, hok4⟩ tk, hsz2, hbel2, hrd2, hst.out⟩
              case measure => simp [intOf]; omega
          · go_wp2_with fail
            refine (token_any t d m y r w.heap.size _ _ (by rw [S_size]; omega) hg hmr hK).mono ?_
            rintro e w2 ⟨rfl, hK2, hg2⟩
            rw [S_toList] at hK2
            have hbel2 : Below w.heap.size w w2 := hbel.grown hg2 (Nat.le_of_lt hsz1) (fun k hk => by cases hk; exact Nat.le_refl _)
            have hrd2 := hrd.kept hg2 (fun b hb => hne b hb)
            have hsz2 : w.heap.size < w2.heap.size := Nat.lt_of_lt_of_le hsz1 hg2.size
            go_wp2
            go_roundw
            case rel => exact ⟨k + 1, tokStep ⟨t, d, m, y, r⟩ tk, by go_num, by omega, hK2, fd_step ⟨hok1, hok2, hok3, hok4⟩ tk, hsz2, hbel2, hrd2, hst.out⟩
            case measure => simp [intOf]; omega
        · go_wp2_with fail
          refine (token_any t d m y r w.heap.size _ _ (by rw [S_size]; omega) hg hmr hK).mono ?_
          rintro e w2 ⟨rfl, hK2, hg2⟩
          rw [S_toList] at hK2
          have hbel2 : Below w.heap.size w w2 := hbel.grown hg2 (Nat.le_of_lt hsz1) (fun k hk => by cases hk; exact Nat.le_refl _)
          have hrd2 := hrd.kept hg2 (fun b hb => hne b hb)
          have hsz2 : w.heap.size < w2.heap.size := Nat.lt_of_lt_of_le hsz1 hg2.size
          go_wp2
          go_roundw
          case rel => exact ⟨k + 1, tokStep ⟨t, d, m, y, r⟩ tk, by go_num, by omega, hK2, fd_step ⟨hok1, hok2, hok3, hok4⟩ tk, hsz2, hbel2, hrd2, hst.out⟩
          case measure => simp [intOf]; omega
      · go_wp2_with fail
        refine (token_any t d m y r w.heap.size _ _ (by rw [S_size]; omega) hg hmr hK).mono ?_
        rintro e w2 ⟨rfl, hK2, hg2⟩
        rw [S_toList] at hK2
        have hbel2 : Below w.heap.size w w2 := hbel.grown hg2 (Nat.le_of_lt hsz1) (fun k hk => by cases hk; exact Nat.le_refl _)
        have hrd2 := hrd.kept hg2 (fun b hb => hne b hb)
        have hsz2 : w.heap.size < w2.heap.size := Nat.lt_of_lt_of_le hsz1 hg2.size
        go_wp2
        go_roundw
        case rel => exact ⟨k + 1, tokStep ⟨t, d, m, y, r⟩ tk, by go_num, by omega, hK2, fd_step ⟨hok1, hok2, hok3, hok4⟩ tk, hsz2, hbel2, hrd2, hst.out⟩
        case measure => simp [intOf]; omega
    · have hkn : k = (tokensL s.toList).length := by omega
      have hF := Lib.hid (show dateT s.toList = parseD ⟨t, d, m, y, r⟩ from congrArg parseD (hin.out.trans (by rw [hkn, List.drop_length]; rfl)))
      have hni : decide ((k : Int) < (tokensL s.toList).length) = false := decide_eq_false (by omega)
      clear hin hrd hmr
      by_cases h1 : 0 ≤ t
      · by_cases h2 : 0 ≤ d
        · by_cases h3 : 0 ≤ m
          · by_cases h4 : 0 ≤ y
            · cases r with
              | false =>
                have hE := Lib.hid (show dateT s.toList = (0, 1) from hF.out.trans (if_pos (by simp [fdFull, h1, h2, h3, h4])))
                clear hF
                go_wp2
                try rw [Exit.noGoto_ret]
                go_ret2
                rw [hE.out]
                exact ⟨rfl, hbel⟩
              | true =>
                have hy0 : 0 ≤ y := h4
                have hfu : fullI y ≤ 9999 + 2000 ∧ 0 ≤ fullI y := by unfold fullI; split <;> (try split) <;> omega
                have hfl := Lib.hid (show fdFull ⟨t, d, m, y, true⟩ = true by simp [fdFull, h1, h2, h3, h4])
                have hF2 := Lib.hid (show dateT s.toList = if rightB (fullI y) m d then (daysI (fullI y) m d * 86400 + t, 0) else (0, 1) from hF.out.trans (by unfold parseD; rw [hfl.out]; rfl))
                clear hF hfl
                go_wp2_with fail
                go_quiet (first | (go_at_call 114; exact Calls.quiet_of_same ((full_any y _ hy0 hok4.2).mono fun _ _ h => ⟨h.1, h.2.symm⟩)) | (go_at_call 113; exact Calls.quiet_of_same ((days_any (fullI y) m d _ (by omega) (by omega) (by omega)).mono fun _ _ h => ⟨h.1, h.2.symm⟩)))
                generalize fullI y = Y at *
                cases hR : rightB Y m d with
                | true =>
                  have hDT := Lib.hid (show daysT Y m d = (daysI Y m d, 0) by unfold daysT; rw [hR]; rfl)
                  have hE := Lib.hid (show dateT s.toList = (daysI Y m d * 86400 + t, 0) from hF2.out.trans (if_pos hR))
                  have hdb := days_bd hR
                  generalize daysI Y m d = D at *
                  clear hF2 hR
                  rw [hDT.out]
                  clear hDT
                  go_wp2
                  try rw [Exit.noGoto_ret]
                  go_ret2
                  rw [hE.out]
                  exact ⟨rfl, by first | exact hbel | exact below_drews hbel _ | exact hbel.drew⟩
                | false =>
                  have hDT := Lib.hid (show daysT Y m d = (0, 4) by unfold daysT; rw [hR]; rfl)
                  have hE := Lib.hid (show dateT s.toList = (0, 1) from hF2.out.trans (if_neg (by rw [hR]; decide)))
                  clear hF2 hR
                  rw [hDT.out]
                  clear hDT
                  go_wp2
                  try rw [Exit.noGoto_ret]
                  go_ret2
                  rw [hE.out]
                  exact ⟨rfl, by first | exact hbel | exact below_drews hbel _ | exact hbel.drew⟩
            · have hE := Lib.hid (show dateT s.toList = (0, 1) from hF.out.trans (if_pos (by simp [fdFull, h1, h2, h3, h4])))
              clear hF
              go_wp2
              try rw [Exit.noGoto_ret]
              go_ret2
              rw [hE.out]
              exact ⟨rfl, hbel⟩
          · have hE := Lib.hid (show dateT s.toList = (0, 1) from hF.out.trans (if_pos (by simp [fdFull, h1, h2, h3])))
            clear hF
            go_wp2
            try rw [Exit.noGoto_ret]
            go_ret2
            rw [hE.out]
            exact ⟨rfl, hbel⟩
        · have hE := Lib.hid (show dateT s.toList = (0, 1) from hF.out.trans (if_pos (by simp [fdFull, h1, h2])))
          clear hF
          go_wp2
          try rw [Exit.noGoto_ret]
          go_ret2
          rw [hE.out]
          exact ⟨rfl, hbel⟩
      · have hE := Lib.hid (show dateT s.toList = (0, 1) from hF.out.trans (if_pos (by simp [fdFull, h1])))
        clear hF
        go_wp2
        try rw [Exit.noGoto_ret]
        go_ret2
        rw [hE.out]
        exact ⟨rfl, hbel⟩
end Go.Proofs.YtgfoaopfdpclhaaGreatDoor
