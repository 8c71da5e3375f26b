/-
  The law SuffixTurned.
-/
import Derived.Test.YtbijphfendaddaaSuf6
import Derived.Test.YtbijphfendaddaaRows2
import Derived.OpenShut
namespace Go.Proofs.Ytbijphfendaddaa
open Go.RowKit Go.Deep Go.WideShapes
set_option linter.unusedVariables false

section
variable {H : Type} {enc : TypeId × Value → H} {w : World} {base : Nat} {spare : Nat → Bool} {held : Bool}
theorem flat_one (l : List (List UInt8)) : (l.flatMap fun q => [strV q]) = l.map strV := by
  induction l with
  | nil => rfl
  | cons a r ih => rw [List.flatMap_cons, ih]; rfl
theorem open_texts {base0 : Nat} {v : Value} {d : DataW H} {p : List MemPlace} (hval : Value.okWide Try.prog w .any base0 22 v) (h : DataW.Trod enc Try.prog w 0 (fun _ => true) true 22 v d p) :
    ∃ x : SlArg (List UInt8), v = .slice x.A x.n x.c ∧ Rd w 1 (.slice x.A x.n x.c) x.n (x.l.map strV) ∧ ∀ q ∈ x.l, q.length ≤ maxLen := by
  obtain ⟨a0, len0, cap0, rfl⟩ := okWide_slice Try.underlying22 hval
  obtain ⟨fuel, hf⟩ := h
  have h2 : Try.prog.cellsOf 9 = 1 := by kernel_rfl
  rcases open_slice Try.underlying22 hf with ⟨hcs, _⟩ | ⟨a, len, cap, m, n, D, Pl, hcs, hb, hl, hm, hmm, hx, hel⟩
  · simp [Value.cells] at hcs
    obtain ⟨rfl, rfl, rfl⟩ := hcs
    exact ⟨⟨none, 0, 0, []⟩, rfl, ⟨rfl, none, 0, rfl, Nat.le_refl _, by simp [maxLen], .inl rfl⟩, by simp⟩
  · simp [Value.cells] at hcs
    obtain ⟨rfl, rfl, rfl⟩ := hcs
    rw [h2] at hel
    have hlm : len0 ≤ m := by rw [hmm]; split <;> omega
    obtain ⟨l, hll, hp, hR⟩ := rd_of_cells (sz := 1) (fun q : List UInt8 => [strV q]) (fun q => rfl) (by decide) (p := fun q => q.length ≤ maxLen) hl hm (fun i hi => by
      obtain ⟨cs', hc, ht⟩ := hel i (by omega)
      obtain ⟨x, rfl, _, hx1⟩ := DataW.trod_string Try.underlying9 ht
      obtain ⟨_, _, hat⟩ := World.cells?_some hc
      refine ⟨x.toList, by rw [← size_toList]; exact hx1, fun j hj => ?_⟩
      rw [← Go.Deep.add_add, hat j hj]
      simp [strV, S_of])
    rw [flat_one] at hR
    exact ⟨⟨some a, len0, cap0, l⟩, rfl, hR, hp⟩
end

theorem lightS_lens {rs : List (List UInt8)} (h : lightS rs = true) : ∀ r ∈ rs, r.length ≤ 300 := by
  unfold lightS at h
  simp only [Bool.and_eq_true, List.all_eq_true, decide_eq_true_eq] at h
  exact h.2
theorem rev_step (rs : List (List UInt8)) (k : Nat) (h : k < rs.length) : (rs.drop k).reverse = (rs.drop (k + 1)).reverse ++ [rs[k]] := by
  rw [List.drop_eq_getElem_cons h, List.reverse_cons]
theorem u8_wf' {n : Int} (h : (Lit.int .u8 n).wf = true) : ∃ c : UInt8, n = c.toNat := by
  simp [Lit.wf, IntKind.min, IntKind.max, IntKind.signed, IntKind.bits] at h
  exact ⟨UInt8.ofNat n.toNat, by simp; omega⟩

set_option maxRecDepth 4000 in
set_option maxHeartbeats 4000000 in
theorem turned_no (A : Option Addr) (c : Nat) (rs : List (List UInt8)) (nm : List UInt8) (q : UInt8) (w : World) (h : Rd w 1 (.slice A rs.length c) rs.length (rs.map strV)) (hnm : nm.length ≤ maxLen) (hgo : ¬ (lightS rs = true ∧ nm.length ≤ 300 ∧ rs.length ≠ 0 ∧ rs.length ≤ 60)) :
    Calls Try.prog 3 #[.slice A rs.length c, .string (S nm), .int .u8 q.toNat] w fun e w' => e = .returned (.bool true) ∧ Below w.heap.size w w' := by
  have hcap := h.cap
  unfold maxLen at hcap
  obtain ⟨hca, hcb⟩ := hcap
  have hcs : lightS rs = false ∨ (lightS rs = true ∧ 300 < nm.length) ∨ (lightS rs = true ∧ nm.length ≤ 300 ∧ rs.length = 0) ∨ (lightS rs = true ∧ nm.length ≤ 300 ∧ rs.length ≠ 0 ∧ 60 < rs.length) := by
    cases hl : lightS rs
    · exact .inl rfl
    · by_cases a : 300 < nm.length
      · exact .inr (.inl ⟨rfl, a⟩)
      · by_cases b : rs.length = 0
        · exact .inr (.inr (.inl ⟨rfl, by omega, b⟩))
        · exact .inr (.inr (.inr ⟨rfl, by omega, b, by
            by_cases d : rs.length ≤ 60
            · exact absurd ⟨hl, by omega, b, d⟩ hgo
            · omega⟩))
  clear hgo
  rcases hcs with hl | ⟨hl, a⟩ | ⟨hl, a, b⟩ | ⟨hl, a, b, d⟩
  · have hL := Lib.hid hl
    clear hl
    go_enter Try.func3, Try.ntmps3
    go_wp2_with fail
    refine (light09_any A rs.length c rs _ h).mono ?_
    rintro e w1 ⟨rfl, hb1⟩
    rw [hL.out]
    go_wp2_with fail
    refine (awake09_any _).mono ?_
    rintro e w2 ⟨rfl, hb2⟩
    have hb := bel_call hb1 hb2
    go_wp2
    go_ret
    exact ⟨rfl, hb⟩
  · have hL := Lib.hid hl
    have ai : (300 : Int) < nm.length := by omega
    clear hl
    go_enter Try.func3, Try.ntmps3
    go_wp2_with fail
    refine (light09_any A rs.length c rs _ h).mono ?_
    rintro e w1 ⟨rfl, hb1⟩
    rw [hL.out]
    go_wp2_with fail
    refine (awake09_any _).mono ?_
    rintro e w2 ⟨rfl, hb2⟩
    have hb := bel_call hb1 hb2
    go_wp2
    go_ret
    exact ⟨rfl, hb⟩
  · have hL := Lib.hid hl
    have ai : (nm.length : Int) ≤ 300 := by omega
    have hrs0 : rs = [] := List.length_eq_zero_iff.1 b
    subst hrs0
    clear hl b
    go_enter Try.func3, Try.ntmps3
    go_wp2_with fail
    refine (light09_any A ([] : List (List UInt8)).length c [] _ h).mono ?_
    rintro e w1 ⟨rfl, hb1⟩
    rw [hL.out]
    go_wp2_with fail
    refine (awake09_any _).mono ?_
    rintro e w2 ⟨rfl, hb2⟩
    have hb := bel_call hb1 hb2
    go_wp2
    go_ret
    exact ⟨rfl, hb⟩
  · have hL := Lib.hid hl
    have ai : (nm.length : Int) ≤ 300 := by omega
    have bi : ((rs.length : Int) == 0) = false := beq_eq_false_iff_ne.2 (by omega)
    have di : (60 : Int) < rs.length := by omega
    clear hl
    go_enter Try.func3, Try.ntmps3
    go_wp2_with fail
    refine (light09_any A rs.length c rs _ h).mono ?_
    rintro e w1 ⟨rfl, hb1⟩
    rw [hL.out]
    go_wp2_with fail
    refine (awake09_any _).mono ?_
    rintro e w2 ⟨rfl, hb2⟩
    have hb := bel_call hb1 hb2
    go_wp2
    go_ret
    exact ⟨rfl, hb⟩

set_option maxRecDepth 4000 in
set_option maxHeartbeats 4000000 in
theorem turned_any (A : Option Addr) (n c : Nat) (rs : List (List UInt8)) (nm : List UInt8) (q : UInt8) (w : World) (h : Rd w 1 (.slice A n c) n (rs.map strV)) (hnm : nm.length ≤ maxLen) :
    Calls Try.prog 3 #[.slice A n c, .string (S nm), .int .u8 q.toNat] w fun e w' => e = .returned (.bool true) ∧ Below w.heap.size w w' := by
  obtain ⟨i0, hi, hz0, hz1, hz2⟩ := info_parts Try.info9
  have hcap := h.cap
  unfold maxLen at hcap
  obtain ⟨hca, hcb⟩ := hcap
  have hlen := h.texts.1
  subst hlen
  by_cases hgo : lightS rs = true ∧ nm.length ≤ 300 ∧ rs.length ≠ 0 ∧ rs.length ≤ 60
  · obtain ⟨g1, g2, g3, g4⟩ := hgo
    have h300 := lightS_lens g1
    have hL := Lib.hid g1
    have hrs : ∀ r ∈ rs, r.length ≤ 4294967296 := fun r hr => by have := h300 r hr; omega
    have g2i : (nm.length : Int) ≤ 300 := by omega
    have g3i : ((rs.length : Int) == 0) = false := beq_eq_false_iff_ne.2 (by omega)
    have g4i : (rs.length : Int) ≤ 60 := by omega
    have hjl : q.toNat % rs.length < rs.length := Nat.mod_lt _ (by omega)
    have hmod : (q.toNat : Int).tmod rs.length = ((q.toNat % rs.length : Nat) : Int) := by rw [Int.tmod_eq_emod_of_nonneg (by omega)]; rfl
    have hw64 : wrap64 (q.toNat : Int) = q.toNat := IntWalk.wrap64_in _ (by have := q.toNat_lt; omega)
    have hjx := Lib.hid (show ofT rs nm = ofT (rs.reverse ++ [rs[q.toNat % rs.length]]) nm from ofT_same nm rs _ (fun x => by
      rw [List.mem_append, List.mem_reverse, List.mem_singleton]
      exact ⟨fun hx => .inl hx, fun hx => by rcases hx with hx | rfl; exact hx; exact List.getElem_mem hjl⟩) (by omega) (by simp; omega))
    have hrs2 : ∀ r ∈ rs.reverse ++ [rs[q.toNat % rs.length]], r.length ≤ 4294967296 := fun r hr => by
      rw [List.mem_append, List.mem_reverse, List.mem_singleton] at hr
      rcases hr with hr | rfl
      · exact hrs r hr
      · exact hrs _ (List.getElem_mem hjl)
    have hnl : nm.length ≤ 4294967296 := by omega
    clear g1
    go_enter Try.func3, Try.ntmps3
    go_wp2_with fail
    refine (light09_any A rs.length c rs _ h).mono ?_
    rintro e w1 ⟨rfl, hb1⟩
    rw [hL.out]
    go_wp2
    go_loopw [7, 8] (fun v i wr => ∃ k : Nat, k ≤ rs.length ∧ i = .int .i64 ((k : Int) - 1) ∧ wr.ownsRow w.heap.size 9 1 v (rs.length - k) ((rs.drop k).reverse.map strV) ∧ Below w.heap.size w wr) (fun _ i _ => (intOf i + 1).toNat)
    case atStart => exact ⟨rs.length, Nat.le_refl _, rfl, by rw [Nat.sub_self, List.drop_length]; exact World.ownsRow_lit w1 #[] 0 hb1.size (by unfold maxLen; omega) rfl, bel_alloc hb1 _⟩
    case round =>
      clear hb1
      obtain ⟨k, hk, rfl, hown, hbel⟩ := hrel
      by_cases hlt : 0 < k
      · obtain ⟨k', rfl⟩ : ∃ k', k = k' + 1 := ⟨k - 1, by omega⟩
        have hk2 : k' < rs.length := by omega
        have hki : (0 : Int) ≤ (((k' + 1 : Nat)) : Int) - 1 := by omega
        have hke : (((k' + 1 : Nat)) : Int) - 1 = (k' : Int) := by omega
        rw [hke]
        obtain ⟨b, off, rfl, hb, hx⟩ := (h.below hbel).texts.2 k' hk2
        have hki2 : (k' : Int) < rs.length := by omega
        have hsn := Lib.hid (rev_step rs k' hk2)
        have hszr := hbel.size
        generalize rs[k'] = tk at *
        go_wp2_with (at_builtin; refine wpList_push rfl _ _ 22 rfl w.heap.size 9 i0 (.string ByteArray.empty) 1 16 Try.underlying22 hi hz0 hz1 hz2 rfl (by decide) _ _ _ rfl hown _ _ rfl rfl rfl ?c1 ?c2 ?c3 hszr hbel ?_)
        case c1 => exact rfl
        case c2 => unfold maxLen; omega
        case c3 => omega
        intro v' w' hown' hg hbel' hsz'
        go_wp2
        go_roundw
        case rel =>
          refine ⟨k', by omega, rfl, ?_, hbel'⟩
          rw [hsn.out, List.map_append, show rs.length - k' = rs.length - (k' + 1) + 1 by omega, List.map_reverse, List.map_drop]
          exact hown'
        case measure => simp [intOf]
      · obtain rfl : k = 0 := by omega
        rw [List.drop_zero, Nat.sub_zero] at hown
        obtain ⟨b, off, rfl, hb, hx⟩ := (h.below hbel).texts.2 (q.toNat % rs.length) hjl
        have hszr := hbel.size
        have hji : ((q.toNat % rs.length : Nat) : Int) < rs.length := by omega
        generalize hjj : q.toNat % rs.length = j at *
        clear hjj
        generalize rs[j] = tk at *
        go_wp2_with (at_builtin; refine wpList_push rfl _ _ 22 rfl w.heap.size 9 i0 (.string ByteArray.empty) 1 16 Try.underlying22 hi hz0 hz1 hz2 rfl (by decide) _ _ _ rfl hown _ _ rfl rfl rfl ?c4 ?c5 ?c6 hszr hbel ?_)
        case c4 => exact rfl
        case c5 => unfold maxLen; omega
        case c6 => omega
        intro v' w' hown' hg hbel' hsz'
        have hrd' : Rd w' 1 v' (rs.length + 1) ((rs.reverse ++ [tk]).map strV) := by
          have := Rd.of_own hown'
          rw [List.map_append, List.map_reverse]
          exact this
        obtain ⟨A3, c3, rfl⟩ := own_form hown'
        have hr2 := h.below hbel'
        clear hown hown' hg hbel hx hsz' hszr
        go_wp2_with fail
        refine (of_any _ rs.length c rs nm _ hr2 hrs hnl).mono ?_
        rintro e w2 ⟨rfl, hb2⟩
        have hrd2 := hrd'.below hb2
        have hbel2 := bel_call hbel' hb2
        clear hrd' hr2 hbel' hb2
        go_wp2_with fail
        refine (of_any A3 (rs.length + 1) c3 (rs.reverse ++ [tk]) nm _ hrd2 hrs2 hnl).mono ?_
        rintro e w3 ⟨rfl, hb3⟩
        rw [← hjx.out]
        have hbel3 := bel_call hbel2 hb3
        clear hrd2 hbel2 hb3
        generalize ofT rs nm = R at *
        go_wp2_with fail
        refine (awake09_any _).mono ?_
        rintro e w4 ⟨rfl, hb4⟩
        have hbel4 := bel_call hbel3 hb4
        go_wp2
        go_ret
        exact ⟨rfl, hbel4⟩
  · exact turned_no A c rs nm q w h hnm hgo
theorem suffixTurned (x : SlArg (List UInt8)) (nm : ByteArray) (q : Int) (w : World) (hx : Rd w 1 (.slice x.A x.n x.c) x.n (x.l.map strV) ∧ ∀ q ∈ x.l, q.length ≤ maxLen) (hnm : nm.size ≤ maxLen) (hq : (Lit.int .u8 q).wf = true) :
    Calls Try.prog 3 #[.slice x.A x.n x.c, .string nm, .int .u8 q] w fun e w' => e = .returned (.bool true) ∧ Below w.heap.size w w' := by
  obtain ⟨c, rfl⟩ := u8_wf' hq
  have := turned_any x.A x.n x.c x.l nm.toList c w hx.1 (by rw [← size_toList]; exact hnm)
  rw [S_of] at this
  exact this
end Go.Proofs.Ytbijphfendaddaa
