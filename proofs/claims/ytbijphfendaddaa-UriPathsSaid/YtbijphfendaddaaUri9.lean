/-
  The law UriPaths.
-/
import Derived.Test.YtbijphfendaddaaUri8
namespace Go.Proofs.Ytbijphfendaddaa
open Go.RowKit Go.Deep Go.WideShapes
set_option linter.unusedVariables false

/-- A port's five digits. -/
def dgI (p m : Int) : UInt8 := UInt8.ofNat (48 + p / m % 10).toNat
def dgs (p : Int) : List UInt8 := [dgI p 10000, dgI p 1000, dgI p 100, dgI p 10, dgI p 1]
theorem dgI_nat (p m : Int) : (dgI p m).toNat = (48 + p / m % 10).toNat := by
  unfold dgI
  simp
  omega
theorem dgI_digit (p m : Int) : digitB (dgI p m) = true := by
  unfold digitB
  rw [decide_eq_true_iff, dgI_nat]
  omega
theorem dgs_digN (p : Int) : digN (dgs p) = 5 := by
  unfold dgs
  simp [digN, dgI_digit]
theorem dgs_val {p : Int} (h0 : 0 ≤ p) (h1 : p ≤ 65535) : numV (dgs p) = p := by
  rw [numV_digits (by unfold dgs; simp) (by rw [dgs_digN]; rfl)]
  unfold dgs
  simp only [List.length_cons, List.length_nil, valTo, List.getD_cons_zero, List.getD_cons_succ]
  rw [dgI_nat, dgI_nat, dgI_nat, dgI_nat, dgI_nat]
  omega
theorem dgI_vis (p m : Int) : visC (dgI p m) = true ∧ ([47, 63, 35] : List UInt8).contains (dgI p m) = false := by
  have h := dgI_digit p m
  have : nmC (dgI p m) = true := by
    unfold digitB at h
    unfold nmC
    rw [decide_eq_true_iff] at h ⊢
    omega
  have := nmC_of this
  exact ⟨this.2.1, this.2.2.2.2.1⟩
theorem port_dgs {p : Int} (h0 : 0 ≤ p) (h1 : p ≤ 65535) : portB (58 :: dgs p) = true := by
  unfold portB
  rw [show (58 :: dgs p).drop 1 = dgs p from rfl, dgs_digN, dgs_val h0 h1]
  simp [dgs, h1]
theorem path_parse {r : Rq} {p : Int} {q : List UInt8} (h : rightU r = true) (h0 : 0 ≤ p) (h1 : p ≤ 65535) (hq : visB q = true) (hl : r.h.length + r.p.length ≤ 300) (hql : q.length ≤ 300) :
    parseU (begU r.s ++ (r.h ++ 58 :: dgs p ++ (r.p ++ 63 :: q))) = (⟨r.h, r.p, r.s, false⟩, 0) := by
  obtain ⟨a1, a2, a3, a4, a5, a6⟩ := rightU_parts h
  have h8 : (begU r.s).length ≤ 8 := by unfold begU; split <;> decide
  refine parse_mk a1 (.inr ⟨_, rfl⟩) (port_dgs h0 h1) ?_ ?_ a3 a2 a4 a5 (.inr ⟨_, rfl⟩) ?_ ?_
  · show (visC 58 && visB (dgs p)) = true
    unfold visB dgs
    simp [dgI_vis]
    decide
  · intro c hc
    unfold dgs at hc
    simp only [List.mem_cons, List.not_mem_nil, or_false] at hc
    rcases hc with rfl | rfl | rfl | rfl | rfl | rfl
    · decide
    all_goals exact (dgI_vis _ _).2
  · show (visC 63 && visB q) = true
    rw [hq]; decide
  · simp [dgs]; omega

def pwI : Nat → Int
  | 0 => 10000
  | 1 => 1000
  | 2 => 100
  | 3 => 10
  | 4 => 1
  | _ => 0
set_option maxHeartbeats 8000000 in
theorem uriPaths_any (r : Rq) (p : Int) (qs : ByteArray) (w : World) (hr : r.h.length ≤ 140737488351232 ∧ r.p.length ≤ 140737488351232) (hp : (Lit.int .u16 p).wf = true) (hq : qs.size ≤ maxLen) (hm : Mx w) :
    Calls Try.prog 7 #[.agg (rqC r), .int .u16 p, .string qs] w fun e w' => e = .returned (.bool true) ∧ Below w.heap.size w w' := by
  obtain ⟨q, rfl⟩ : ∃ l, qs = S l := ⟨qs.toList, (S_of qs).symm⟩
  rw [S_size] at hq
  unfold maxLen at hq
  have hp2 : 0 ≤ p ∧ p ≤ 65535 := by
    simp [Lit.wf, IntKind.min, IntKind.max, IntKind.signed, IntKind.bits] at hp
    exact ⟨by omega, by omega⟩
  obtain ⟨hp0, hp1⟩ := hp2
  obtain ⟨h1, h2⟩ := hr
  have hB0 := bel_alloc (Below.refl w.heap.size w) (.cells (rqC r) 37)
  have hK0 := Blk.new_ w 37 (rqC r)
  cases hR : rightU r
  · have hRH := Lib.hid hR
    clear hR
    go_enter Try.func7, Try.ntmps7
    go_wp2_with fail
    refine (refRight10_any r _ (by omega) (by omega)).mono ?_
    rintro e w1 ⟨rfl, hb1⟩
    rw [hRH.out]
    have hB1 := bel_call hB0 hb1
    have hm1 := hm.next hB1
    go_wp2_with fail
    refine (awake10_any _ hm1).mono ?_
    rintro e w2 ⟨rfl, hb2⟩
    have hB2 := bel_call hB1 hb2
    go_wp2
    go_ret
    exact ⟨rfl, hB2⟩
  have hRH := Lib.hid hR
  by_cases hlong : 300 < r.h.length + r.p.length ∨ 300 < q.length
  · have hcs : ((300 : Int) < r.h.length + r.p.length) ∨ ((r.h.length : Int) + r.p.length ≤ 300 ∧ (300 : Int) < q.length) := by omega
    clear hlong hR
    rcases hcs with hi | ⟨hi, hi2⟩
    all_goals
      go_enter Try.func7, Try.ntmps7
      go_wp2_with fail
      refine (refRight10_any r _ (by omega) (by omega)).mono ?_
      rintro e w1 ⟨rfl, hb1⟩
      rw [hRH.out]
      have hK1 := hK0.below hb1
      obtain ⟨c0, c1, c2, c3, cf⟩ := rq_cells hK1
      have hB1 := bel_call hB0 hb1
      have hm1 := hm.next hB1
      clear hK0 hB0 hb1 hK1
      go_wp2_with fail
      refine (awake10_any _ hm1).mono ?_
      rintro e w2 ⟨rfl, hb2⟩
      have hB2 := bel_call hB1 hb2
      clear c0 c1 c2 c3 cf
      go_wp2
      go_ret
      exact ⟨rfl, hB2⟩
  have hi1 : (r.h.length : Int) + r.p.length ≤ 300 := by omega
  have hi2 : (q.length : Int) ≤ 300 := by omega
  have hPP := Lib.hid (fun hv => path_parse (r := r) (p := p) (q := q) hR hp0 hp1 hv (by omega) (by omega))
  clear hlong hR
  go_enter Try.func7, Try.ntmps7
  go_wp2_with fail
  refine (refRight10_any r _ (by omega) (by omega)).mono ?_
  rintro e w1 ⟨rfl, hb1⟩
  rw [hRH.out]
  have hK1 := hK0.below hb1
  obtain ⟨c0, c1, c2, c3, cf⟩ := rq_cells hK1
  have hB1 := bel_call hB0 hb1
  have hm1 := hm.next hB1
  clear hK0 hB0 hb1
  go_wp2
  go_loop [7] (fun i => ∃ k : Nat, i = .int .i64 k ∧ k ≤ q.length ∧ Hid (visB (q.take k) = true)) (fun i => q.length - (intOf i).toNat)
  case atStart => exact ⟨0, rfl, by omega, Lib.hid rfl⟩
  case round =>
    obtain ⟨k, rfl, hk, hin⟩ := hrel
    by_cases hlt : k < q.length
    · have hki : (k : Int) < q.length := by omega
      have hg : ∀ h, (S q)[k]'h = q.getD k 0 := fun h => by rw [get_l _ _ h, S_toList]
      cases hv : visC (q.getD k 0)
      · have hcs : ((q.getD k 0).toNat : Int) < 33 ∨ (decide (((q.getD k 0).toNat : Int) < 33) = false ∧ (126 : Int) < ((q.getD k 0).toNat : Int)) := by
          unfold visC at hv
          by_cases h : (q.getD k 0).toNat < 33
          · exact .inl (by omega)
          · rw [decide_eq_true (show 32 < (q.getD k 0).toNat by omega), Bool.true_and, decide_eq_false_iff_not] at hv
            exact .inr ⟨decide_eq_false (by omega), by omega⟩
        clear hv
        generalize q.getD k 0 = c9 at *
        rcases hcs with h3 | ⟨h3, h4⟩
        all_goals
          go_wp2_with fail
          refine (awake10_any _ hm1).mono ?_
          rintro e w2 ⟨rfl, hb2⟩
          have hB2 := bel_call hB1 hb2
          go_wp2
          go_ret
          exact ⟨rfl, hB2⟩
      · have hin2 := Lib.hid (vis_take_step hlt hin.out hv)
        have h33i : decide (((q.getD k 0).toNat : Int) < 33) = false := by
          unfold visC at hv
          simp only [Bool.and_eq_true, decide_eq_true_eq] at hv
          exact decide_eq_false (by omega)
        have h126 : decide ((126 : Int) < ((q.getD k 0).toNat : Int)) = false := by
          unfold visC at hv
          simp only [Bool.and_eq_true, decide_eq_true_eq] at hv
          exact decide_eq_false (by omega)
        clear hv hin
        generalize q.getD k 0 = c9 at *
        go_wp2
        go_round
        case rel => exact ⟨k + 1, by go_num, by omega, hin2⟩
        case measure => simp [intOf]; omega
    · obtain rfl : k = q.length := by omega
      have hfin := show visB q = true by have := hin.out; rwa [List.take_length] at this
      have hP := Lib.hid (hPP.out hfin)
      clear hin hfin hPP
      have e1 : (⟨#[104, 116, 116, 112, 58, 47, 47]⟩ : ByteArray) = S [104, 116, 116, 112, 58, 47, 47] := rfl
      have e2 : (⟨#[104, 116, 116, 112, 115, 58, 47, 47]⟩ : ByteArray) = S [104, 116, 116, 112, 115, 58, 47, 47] := rfl
      have e3 : (⟨#[58]⟩ : ByteArray) = S [58] := rfl
      cases hs : r.s
      · rw [hs] at hP c2
        have hsH := Lib.hid hs
        clear hs
        go_wp2
        go_loopw [8, 9] (fun v n wr => ∃ k : Nat, k ≤ 5 ∧ n = .int .i64 (pwI k) ∧ v = .string (S ([104, 116, 116, 112, 58, 47, 47] ++ r.h ++ [58] ++ (dgs p).take k)) ∧ Below w1.heap.size w1 wr) (fun _ n _ => (intOf n).toNat)
        case atStart => exact ⟨0, by omega, rfl, by simp, Below.refl _ _⟩
        case round =>
          obtain ⟨k, hk5, rfl, rfl, hbel⟩ := hrel
          by_cases hk6 : k = 5
          case neg =>
            have hlenr : r.h.length ≤ 300 := by omega
            clear hK1 c0 c1 c2 c3 cf hm1
            have hkc : k = 0 ∨ k = 1 ∨ k = 2 ∨ k = 3 ∨ k = 4 := by omega
            rcases hkc with rfl | rfl | rfl | rfl | rfl
            · simp only [pwI]
              go_wp2
              exact ⟨⟨1, by omega, rfl, by simp [dgs, dgI], bel_alloc hbel _⟩, by simp [intOf]⟩
            · simp only [pwI]
              go_wp2
              exact ⟨⟨2, by omega, rfl, by simp [dgs, dgI], bel_alloc hbel _⟩, by simp [intOf]⟩
            · simp only [pwI]
              go_wp2
              exact ⟨⟨3, by omega, rfl, by simp [dgs, dgI], bel_alloc hbel _⟩, by simp [intOf]⟩
            · simp only [pwI]
              go_wp2
              exact ⟨⟨4, by omega, rfl, by simp [dgs, dgI], bel_alloc hbel _⟩, by simp [intOf]⟩
            · simp only [pwI]
              go_wp2
              exact ⟨⟨5, by omega, rfl, by simp [dgs, dgI], bel_alloc hbel _⟩, by simp [intOf]⟩
          case pos =>
            subst hk6
            rw [show (dgs p).take 5 = dgs p from rfl]
            have hQ := Lib.hid (show parseU (104 :: 116 :: 116 :: 112 :: 58 :: 47 :: 47 :: (r.h ++ 58 :: (dgs p ++ (r.p ++ 63 :: q)))) = (⟨r.h, r.p, false, false⟩, 0) by have := hP.out; simpa [begU] using this)
            have hlen : (104 :: 116 :: 116 :: 112 :: 58 :: 47 :: 47 :: (r.h ++ 58 :: (dgs p ++ (r.p ++ 63 :: q)))).length ≤ 4294967280 := by
              simp only [List.length_append, List.length_cons, List.length_nil, dgs]; omega
            have hd5 : (dgs p).length ≤ 5 := Nat.le_refl _
            have hK2 := hK1.below hbel
            have hB2 := bel_call hB1 hbel
            have hm2 := hm.next hB2
            have e4 : (⟨#[63]⟩ : ByteArray) = S [63] := rfl
            clear c0 c1 c2 c3 cf
            obtain ⟨c0, c1, c2, c3, cf⟩ := rq_cells hK2
            rw [hsH.out] at c2
            generalize dgs p = ds at *
            simp only [pwI]
            go_wp2_with fail
            refine (uparse_any _ _ hlen hm2).mono ?_
            rintro e w3 ⟨rfl, hb3⟩
            rw [hQ.out]
            have hK3 := hK2.below hb3
            have hB3 := bel_call hB2 hb3
            have hgt := hK3.lt
            have hB4 : Below w.heap.size w ((w3.setCell ⟨w.heap.size, 3, none⟩ (.bool false)).alloc (.cells (rqC ⟨r.h, r.p, false, false⟩) 37)) := bel_alloc (hB3.setCell (Nat.le_refl _) _) _
            have hm4 := hm.next hB4
            have he := eqRq_self ⟨r.h, r.p, false, false⟩
            clear c0 c1 c2 c3 cf
            obtain ⟨c0, c1, c2, c3, cf⟩ := rq_cells hK3
            rw [hsH.out] at c2
            simp only at he
            unfold rqV
            rw [show rqC ⟨r.h, r.p, false, false⟩ = #[.string (S r.h), .string (S r.p), .bool false, .bool false] from rfl] at *
            simp only
            clear hK1 hK2 hK3 hB3 hb3
            go_wp2_with fail
            refine (awake10_any _ hm4).mono ?_
            rintro e w5 ⟨rfl, hb5⟩
            have hB6 := bel_call hB4 hb5
            clear c0 c1 c2 c3 cf hB4 hb5 hm4
            go_wp2
            go_ret
            exact ⟨rfl, hB6⟩
      · rw [hs] at hP c2
        have hsH := Lib.hid hs
        clear hs
        go_wp2
        go_loopw [8, 9] (fun v n wr => ∃ k : Nat, k ≤ 5 ∧ n = .int .i64 (pwI k) ∧ v = .string (S ([104, 116, 116, 112, 115, 58, 47, 47] ++ r.h ++ [58] ++ (dgs p).take k)) ∧ Below w1.heap.size w1 wr) (fun _ n _ => (intOf n).toNat)
        case atStart => exact ⟨0, by omega, rfl, by simp, Below.refl _ _⟩
        case round =>
          obtain ⟨k, hk5, rfl, rfl, hbel⟩ := hrel
          by_cases hk6 : k = 5
          case neg =>
            have hlenr : r.h.length ≤ 300 := by omega
            clear hK1 c0 c1 c2 c3 cf hm1
            have hkc : k = 0 ∨ k = 1 ∨ k = 2 ∨ k = 3 ∨ k = 4 := by omega
            rcases hkc with rfl | rfl | rfl | rfl | rfl
            · simp only [pwI]
              go_wp2
              exact ⟨⟨1, by omega, rfl, by simp [dgs, dgI], bel_alloc hbel _⟩, by simp [intOf]⟩
            · simp only [pwI]
              go_wp2
              exact ⟨⟨2, by omega, rfl, by simp [dgs, dgI], bel_alloc hbel _⟩, by simp [intOf]⟩
            · simp only [pwI]
              go_wp2
              exact ⟨⟨3, by omega, rfl, by simp [dgs, dgI], bel_alloc hbel _⟩, by simp [intOf]⟩
            · simp only [pwI]
              go_wp2
              exact ⟨⟨4, by omega, rfl, by simp [dgs, dgI], bel_alloc hbel _⟩, by simp [intOf]⟩
            · simp only [pwI]
              go_wp2
              exact ⟨⟨5, by omega, rfl, by simp [dgs, dgI], bel_alloc hbel _⟩, by simp [intOf]⟩
          case pos =>
            subst hk6
            rw [show (dgs p).take 5 = dgs p from rfl]
            have hQ := Lib.hid (show parseU (104 :: 116 :: 116 :: 112 :: 115 :: 58 :: 47 :: 47 :: (r.h ++ 58 :: (dgs p ++ (r.p ++ 63 :: q)))) = (⟨r.h, r.p, true, false⟩, 0) by have := hP.out; simpa [begU] using this)
            have hlen : (104 :: 116 :: 116 :: 112 :: 115 :: 58 :: 47 :: 47 :: (r.h ++ 58 :: (dgs p ++ (r.p ++ 63 :: q)))).length ≤ 4294967280 := by
              simp only [List.length_append, List.length_cons, List.length_nil, dgs]; omega
            have hd5 : (dgs p).length ≤ 5 := Nat.le_refl _
            have hK2 := hK1.below hbel
            have hB2 := bel_call hB1 hbel
            have hm2 := hm.next hB2
            have e4 : (⟨#[63]⟩ : ByteArray) = S [63] := rfl
            clear c0 c1 c2 c3 cf
            obtain ⟨c0, c1, c2, c3, cf⟩ := rq_cells hK2
            rw [hsH.out] at c2
            generalize dgs p = ds at *
            simp only [pwI]
            go_wp2_with fail
            refine (uparse_any _ _ hlen hm2).mono ?_
            rintro e w3 ⟨rfl, hb3⟩
            rw [hQ.out]
            have hK3 := hK2.below hb3
            have hB3 := bel_call hB2 hb3
            have hgt := hK3.lt
            have hB4 : Below w.heap.size w ((w3.setCell ⟨w.heap.size, 3, none⟩ (.bool false)).alloc (.cells (rqC ⟨r.h, r.p, true, false⟩) 37)) := bel_alloc (hB3.setCell (Nat.le_refl _) _) _
            have hm4 := hm.next hB4
            have he := eqRq_self ⟨r.h, r.p, true, false⟩
            clear c0 c1 c2 c3 cf
            obtain ⟨c0, c1, c2, c3, cf⟩ := rq_cells hK3
            rw [hsH.out] at c2
            simp only at he
            unfold rqV
            rw [show rqC ⟨r.h, r.p, true, false⟩ = #[.string (S r.h), .string (S r.p), .bool true, .bool false] from rfl] at *
            simp only
            clear hK1 hK2 hK3 hB3 hb3
            go_wp2_with fail
            refine (awake10_any _ hm4).mono ?_
            rintro e w5 ⟨rfl, hb5⟩
            have hB6 := bel_call hB4 hb5
            clear c0 c1 c2 c3 cf hB4 hb5 hm4
            go_wp2
            go_ret
            exact ⟨rfl, hB6⟩
end Go.Proofs.Ytbijphfendaddaa
