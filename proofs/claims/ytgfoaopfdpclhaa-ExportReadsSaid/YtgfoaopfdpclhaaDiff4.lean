/-
  Items put into lists by keys.
-/
import Derived.Test.YtgfoaopfdpclhaaDiff3
namespace Go.Proofs.Ytgfoaopfdpclhaa
open Go.RowKit
set_option linter.unusedVariables false

theorem Try.infoI : (Try.prog.info? 27).map (fun i => (i.zero, i.size, i.bytes)) = some (some (vI (noneI k0)), 11, 96) := by kernel_rfl
theorem own_low {w : World} {B B' : Nat} {e : TypeId} {sz n : Nat} {v : Value} {xs : List Value} (h : w.ownsRow B e sz v n xs) (hB : B' ≤ B) : w.ownsRow B' e sz v n xs := by
  refine ⟨h.1, ?_⟩
  rcases h.2 with hn | ⟨g, cap, cur, rfl, hb, rest⟩
  · exact .inl hn
  · exact .inr ⟨g, cap, cur, rfl, by omega, rest⟩
theorem flat_one (l : List It) : ∀ u ∈ l.flatMap cI, u.oneCell' = true := by
  intro u hu
  obtain ⟨x, _, hx⟩ := List.mem_flatMap.1 hu
  exact oneB_all (oneB_I x) u hx
theorem flat_oneC (l : List Ch) : ∀ u ∈ l.flatMap cC, u.oneCell' = true := by
  intro u hu
  obtain ⟨x, _, hx⟩ := List.mem_flatMap.1 hu
  exact oneB_all (oneB_C x) u hx
theorem filter_take {α : Type} (p : α → Bool) (l : List α) (j : Nat) (h : j < l.length) : (l.take (j + 1)).filter p = (l.take j).filter p ++ (if p l[j] then [l[j]] else []) := by
  rw [List.take_succ_eq_append_getElem h, List.filter_append]
  cases hp : p l[j] <;> simp [hp]
theorem filter_len {α : Type} (p : α → Bool) (l : List α) : (l.filter p).length ≤ l.length := List.length_filter_le _ _

set_option maxHeartbeats 4000000 in
theorem put25_any (A : Option Addr) (n c : Nat) (l : List It) (x : It) (w : World) (h : Rd w 11 (.slice A n c) n (l.flatMap cI)) (hn : n ≤ 100000) :
    Calls Try.prog 40 #[.slice A n c, vI x] w fun e w' => ∃ A' c', e = .returned (.slice A' (putI l x).length c') ∧ w'.ownsRow w.heap.size 27 11 (.slice A' (putI l x).length c') (putI l x).length ((putI l x).flatMap cI) ∧ Below w.heap.size w w' := by
  obtain ⟨i0, hi, hz0, hz1, hz2⟩ := info_parts Try.infoI
  have hl := h.rows (sz := 11) (f := cI) (fun q => rfl) (by decide)
  have hcap := h.cap
  unfold maxLen at hcap
  obtain ⟨hca, hcb⟩ := hcap
  subst hl
  go_enter Try.func40, Try.ntmps40
  go_wp2
  obtain ⟨W1, hW1⟩ : ∃ W1, W1 = w.alloc (Obj.cells (cI x).toArray 27) := ⟨_, rfl⟩
  have hx1 : itAt W1 w.heap.size 0 = some x := by rw [hW1]; go_simp
  have hB1 : Below w.heap.size w W1 := by rw [hW1]; exact bel_alloc (Below.refl _ _) _
  have hz : W1.heap.size = w.heap.size + 1 := by rw [hW1]; simp
  have hown0 : ((W1.alloc (Obj.cells #[] 27)).alloc (Obj.cells #[] 27)).ownsRow W1.heap.size 27 11 (.slice (some ⟨w.heap.size + 1, 0, none⟩) 0 0) 0 [] := by
    rw [← hz]; exact (World.ownsRow_lit W1 #[] 0 (Nat.le_refl _) (by unfold maxLen; omega) rfl).alloc _
  have hown1 : ((W1.alloc (Obj.cells #[] 27)).alloc (Obj.cells #[] 27)).ownsRow W1.heap.size 27 11 (.slice (some ⟨w.heap.size + 1 + 1, 0, none⟩) 0 0) 0 [] := by
    have h9 : ((W1.alloc (Obj.cells #[] 27)).alloc (Obj.cells #[] 27)).ownsRow W1.heap.size 27 11 (.slice (some ⟨(W1.alloc (Obj.cells #[] 27)).heap.size, 0, none⟩) 0 0) 0 (#[] : Array Value).toList := World.ownsRow_lit _ #[] 0 (by simp) (by unfold maxLen; omega) rfl
    rw [World.size_alloc, hz] at h9
    rw [hz]
    exact h9
  have hap0 : Apart (.slice (some ⟨w.heap.size + 1, 0, none⟩) 0 0) (.slice (some ⟨w.heap.size + 1 + 1, 0, none⟩) 0 0) := fun g hg hg' => by
    have e1 : w.heap.size + 1 = g := Option.some.inj hg
    have e2 : w.heap.size + 1 + 1 = g := Option.some.inj hg'
    omega
  have hbel0 : Below W1.heap.size W1 ((W1.alloc (Obj.cells #[] 27)).alloc (Obj.cells #[] 27)) := bel_alloc (bel_alloc (Below.refl _ _) _) _
  rw [← hW1]
  generalize (W1.alloc (Obj.cells #[] 27)).alloc (Obj.cells #[] 27) = W2 at *
  have hwz : w.heap.size < W1.heap.size := by omega
  have hR1 := h.below hB1
  clear hW1 hz h
  go_loopw [5, 6, 7] (fun va vb i wr => ∃ j : Nat, j ≤ l.length ∧ i = .int .i64 j ∧ wr.ownsRow W1.heap.size 27 11 va ((l.take j).filter fun y => lessK y.k x.k).length (((l.take j).filter fun y => lessK y.k x.k).flatMap cI) ∧
      wr.ownsRow W1.heap.size 27 11 vb ((l.take j).filter fun y => lessK x.k y.k).length (((l.take j).filter fun y => lessK x.k y.k).flatMap cI) ∧ Apart va vb ∧ Below W1.heap.size W1 wr) (fun _ _ i _ => l.length - (intOf i).toNat)
  case atStart => exact ⟨0, Nat.zero_le _, rfl, hown0, hown1, hap0, hbel0⟩
  case round =>
    obtain ⟨j, hj, rfl, hoa, hob, hap, hbel⟩ := hrel
    clear hown0 hown1 hap0 hbel0
    by_cases hlt : j < l.length
    · have hji : (j : Int) < l.length := by omega
      have hj0 : (0 : Int) ≤ (j : Int) := by omega
      have hRr := hR1.below hbel
      obtain ⟨b, off, rfl, hb, hx⟩ := hRr.items hlt
      have hxi := (hx j hlt).1
      have hxx := itAt_later hx1 hbel
      clear hx hb
      have hfa := filter_take (fun y : It => lessK y.k x.k) l j hlt
      have hfb := filter_take (fun y : It => lessK x.k y.k) l j hlt
      have hla := filter_len (fun y : It => lessK y.k x.k) (l.take j)
      have hlb := filter_len (fun y : It => lessK x.k y.k) (l.take j)
      rw [List.length_take] at hla hlb
      generalize hla' : (l.take j).filter (fun y : It => lessK y.k x.k) = La at *
      generalize hlb' : (l.take j).filter (fun y : It => lessK x.k y.k) = Lb at *
      clear hla' hlb'
      have h0k := kyAt_it hxi
      have h0x := kyAt_it hxx
      go_wp2
      cases hq1 : lessK l[j].k x.k with
      | true =>
        have hq2 := lessK_asym hq1
        have Hfa : Hid ((l.take (j + 1)).filter (fun y : It => lessK y.k x.k) = La ++ [l[j]]) := by show _ = _; rw [hfa, hq1]; rfl
        have Hfb : Hid ((l.take (j + 1)).filter (fun y : It => lessK x.k y.k) = Lb) := by show _ = _; rw [hfb, hq2]; simp
        clear hfa hfb
        go_region_held3 (fun w' => kyAt w' b (off + j * 11) = some l[j].k ∧ kyAt w' w.heap.size 0 = some x.k) (first | exact ⟨ky_drew h0k, ky_drew h0x⟩ | exact ⟨kyAt_later (ky_drew h0k) hb0, kyAt_later (ky_drew h0x) hb0⟩) (first | (go_at_call 63; refine (refLess_any _ _ _).mono ?_; rintro e w0 ⟨rfl, hb0⟩))
        have hbel1 := bel_drew hbel hb0
        have h1x := kyAt_later (ky_drew h0x) hb0
        have h1i := itAt_later (it_drew hxi) hb0
        have h1xx := itAt_later (it_drew hxx) hb0
        have hoa1 := own_below hoa.drew hb0
        have hob1 := own_below hob.drew hb0
        have hsz1 := hbel1.size
        clear h0x h0k hxi hxx hb0 hbel hoa hob hRr

        go_wp2_with (at_builtin; refine wpList_push_at rfl _ _ 29 rfl W1.heap.size 27 i0 (vI (noneI k0)) 11 96 Try.underlying29 hi hz0 hz1 hz2 rfl (by decide) _ _ _ rfl hoa1 _ _ rfl rfl (by simp) (cI_one _) ?c1 ?c2 hbel1.size hbel1 ?_)
        case c1 => unfold maxLen; omega
        case c2 => omega
        intro v' w2 hoa2 hg2 hm2 hbel2 hsz2
        have h2x := kyAt_it (itAt_later hx1 hbel2)
        have hob2 := hap.kept hob1 ⟨hg2.os, hg2.tape, hg2.output, hg2.size, hg2.block⟩
        have hap2 := hap.moved hm2 hob1
        have h2k := kyAt_it ((hR1.below hbel2).it hlt)
        clear h1x h1i h1xx hoa1 hob1 hg2 hm2
        go_wp2
        go_region_held3 (fun w' => kyAt w' b (off + j * 11) = some l[j].k ∧ kyAt w' w.heap.size 0 = some x.k) (first | exact ⟨ky_drew h2k, ky_drew h2x⟩ | exact ⟨kyAt_later (ky_drew h2k) hb2, kyAt_later (ky_drew h2x) hb2⟩) (first | (go_at_call 63; refine (refLess_any _ _ _).mono ?_; rintro e w2 ⟨rfl, hb2⟩))
        have hbel3 := bel_drew hbel2 hb2
        have hoa3 := own_below hoa2.drew hb2
        have hob3 := own_below hob2.drew hb2
        clear h2x h2k hoa2 hob2 hb2

        clear hq1 hq2
        go_wp2
        go_roundw
        case rel => exact ⟨j + 1, by omega, by go_num, by rw [Hfa.out, List.length_append, flat_snoc]; exact hoa3, by rw [Hfb.out]; exact hob3, hap2, hbel3⟩
        case measure => simp [intOf]; omega
      | false =>
        have Hfa : Hid ((l.take (j + 1)).filter (fun y : It => lessK y.k x.k) = La) := by show _ = _; rw [hfa, hq1]; simp
        go_region_held3 (fun w' => kyAt w' b (off + j * 11) = some l[j].k ∧ kyAt w' w.heap.size 0 = some x.k) (first | exact ⟨ky_drew h0k, ky_drew h0x⟩ | exact ⟨kyAt_later (ky_drew h0k) hb0, kyAt_later (ky_drew h0x) hb0⟩) (first | (go_at_call 63; refine (refLess_any _ _ _).mono ?_; rintro e w0 ⟨rfl, hb0⟩))
        have hbel1 := bel_drew hbel hb0
        have h1x := kyAt_later (ky_drew h0x) hb0
        have h1i := itAt_later (it_drew hxi) hb0
        have h1k := kyAt_it h1i
        have hoa1 := own_below hoa.drew hb0
        have hob1 := own_below hob.drew hb0
        have hsz1 := hbel1.size
        clear h0x h0k hxi hxx hb0 hbel hoa hob hRr hfa hla
        go_wp2
        cases hq2 : lessK x.k l[j].k with
        | true =>
          have Hfb : Hid ((l.take (j + 1)).filter (fun y : It => lessK x.k y.k) = Lb ++ [l[j]]) := by show _ = _; rw [hfb, hq2]; rfl
          clear hfb
          go_region_held3 (fun w' => kyAt w' b (off + j * 11) = some l[j].k ∧ kyAt w' w.heap.size 0 = some x.k) (first | exact ⟨ky_drew h1k, ky_drew h1x⟩ | exact ⟨kyAt_later (ky_drew h1k) hb2, kyAt_later (ky_drew h1x) hb2⟩) (first | (go_at_call 63; refine (refLess_any _ _ _).mono ?_; rintro e w2 ⟨rfl, hb2⟩))
          have hbel2 := bel_drew hbel1 hb2
          have h2i := itAt_later (it_drew h1i) hb2
          have hoa2 := own_below hoa1.drew hb2
          have hob2 := own_below hob1.drew hb2
          have hsz2 := hbel2.size
          clear h1x h1i h1k hb2 hbel1 hoa1 hob1 hq1
          go_wp2_with (at_builtin; refine wpList_push_at rfl _ _ 29 rfl W1.heap.size 27 i0 (vI (noneI k0)) 11 96 Try.underlying29 hi hz0 hz1 hz2 rfl (by decide) _ _ _ rfl hob2 _ _ rfl rfl (by simp) (cI_one _) ?c1 ?c2 hbel2.size hbel2 ?_)
          case c1 => unfold maxLen; omega
          case c2 => omega
          intro v' w3 hob3 hg3 hm3 hbel3 hsz3
          have hoa3 := hap.symm.kept hoa2 ⟨hg3.os, hg3.tape, hg3.output, hg3.size, hg3.block⟩
          have hap3 := (hap.symm.moved hm3 hoa2).symm
          clear hob2 hoa2 hg3 hm3 h2i hbel2 hq2
          go_wp2
          go_roundw
          case rel => exact ⟨j + 1, by omega, by go_num, by rw [Hfa.out]; exact hoa3, by rw [Hfb.out, List.length_append, flat_snoc]; exact hob3, hap3, hbel3⟩
          case measure => simp [intOf]; omega
        | false =>
          have Hfb : Hid ((l.take (j + 1)).filter (fun y : It => lessK x.k y.k) = Lb) := by show _ = _; rw [hfb, hq2]; simp
          clear hfb
          go_region_held3 (fun w' => kyAt w' b (off + j * 11) = some l[j].k ∧ kyAt w' w.heap.size 0 = some x.k) (first | exact ⟨ky_drew h1k, ky_drew h1x⟩ | exact ⟨kyAt_later (ky_drew h1k) hb2, kyAt_later (ky_drew h1x) hb2⟩) (first | (go_at_call 63; refine (refLess_any _ _ _).mono ?_; rintro e w2 ⟨rfl, hb2⟩))
          have hbel2 := bel_drew hbel1 hb2
          have hoa2 := own_below hoa1.drew hb2
          have hob2 := own_below hob1.drew hb2
          clear h1x h1i h1k hb2 hbel1 hoa1 hob1 hq1 hq2
          go_wp2
          go_roundw
          case rel => exact ⟨j + 1, by omega, by go_num, by rw [Hfa.out]; exact hoa2, by rw [Hfb.out]; exact hob2, hap, hbel2⟩
          case measure => simp [intOf]; omega
    · obtain rfl : j = l.length := by omega
      rw [List.take_length] at hoa hob
      have hxx := itAt_later hx1 hbel
      have hla := filter_len (fun y : It => lessK y.k x.k) l
      have hlb := filter_len (fun y : It => lessK x.k y.k) l
      have hput : Hid (putI l x = l.filter (fun y : It => lessK y.k x.k) ++ [x] ++ l.filter (fun y : It => lessK x.k y.k)) := rfl
      generalize l.filter (fun y : It => lessK y.k x.k) = La at *
      generalize l.filter (fun y : It => lessK x.k y.k) = Lb at *
      have hsz := hbel.size
      go_wp2_with (at_builtin; refine wpList_push_at rfl _ _ 29 rfl W1.heap.size 27 i0 (vI (noneI k0)) 11 96 Try.underlying29 hi hz0 hz1 hz2 rfl (by decide) _ _ _ rfl hoa _ _ rfl rfl (by simp) (cI_one _) ?c1 ?c2 hbel.size hbel ?_)
      case c1 => unfold maxLen; omega
      case c2 => omega
      intro v' w2 hoa2 hg2 hm2 hbel2 hsz2
      have hob2 := hap.kept hob ⟨hg2.os, hg2.tape, hg2.output, hg2.size, hg2.block⟩
      obtain ⟨A2, c2, rfl⟩ := own_form hob2
      have hRb := Rd.of_own hob2
      clear hoa hob hg2 hm2 hbel hxx
      go_wp2_with (at_builtin; refine wpList_more _ rfl _ _ 29 rfl W1.heap.size 27 i0 (vI (noneI k0)) 11 96 Try.underlying29 hi hz0 hz1 hz2 rfl (by decide) _ _ _ rfl hoa2 _ _ _ _ rfl hRb (flat_one Lb) ?d1 ?d2 hsz2 hbel2 ?_)
      case d1 => unfold maxLen; omega
      case d2 => omega
      intro v3 w3 ho3 hg3 hm3 hbel3 hsz3
      go_wp2
      go_ret
      obtain ⟨A3, c3, rfl⟩ := own_form ho3
      have e : (putI l x).flatMap cI = La.flatMap cI ++ (cI x ++ Lb.flatMap cI) := by
        rw [hput.out, List.flatMap_append, List.flatMap_append, List.flatMap_singleton, List.append_assoc]
      have e2 : (putI l x).length = La.length + 1 + Lb.length := by rw [hput.out]; simp; omega
      rw [e, e2]
      exact ⟨A3, c3, rfl, own_low ho3 (Nat.le_of_lt hwz), bel_call hB1 hbel3⟩
end Go.Proofs.Ytgfoaopfdpclhaa
