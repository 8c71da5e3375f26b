/-
  Attributes say the same with their names made small.
-/
import Derived.Test.YtagiolhciplniaaDoorAttr10
import Derived.Deep.RegionHeld3
namespace Go.Proofs.YtagiolhciplniaaDoor
open Go.RowKit Go.Deep Go.WideShapes
set_option linter.unusedVariables false

theorem lowC_lowC (c : UInt8) : lowC (lowC c) = lowC c := by
  by_cases h : 65 ≤ c.toNat ∧ c.toNat ≤ 90
  · have e := lowC_yes h.1 h.2
    generalize lowC c = d at *
    unfold lowC
    rw [if_neg (by omega)]
  · have e : lowC c = c := by unfold lowC; rw [if_neg h]
    rw [e, e]
theorem lowerL_twice (l : List UInt8) : lowerL (lowerL l) = lowerL l := by
  unfold lowerL
  rw [List.map_map]
  exact List.map_congr_left fun c _ => lowC_lowC c
def lowP (p : List UInt8 × List UInt8) : List UInt8 × List UInt8 := (lowerL p.1, p.2)
theorem say_low (f : Ff) (p : List UInt8 × List UInt8) : sayT f (lowP p) = sayT f p := by
  unfold sayT lowP
  simp only [lowerL_twice]
theorem read_low (l : List (List UInt8 × List UInt8)) : readT (l.map lowP) = readT l := by
  unfold readT
  generalize ff0 = f
  induction l generalizing f with
  | nil => rfl
  | cons p r ih => rw [List.map_cons, List.foldl_cons, List.foldl_cons, say_low, ih]
theorem map_take_low (l : List (List UInt8 × List UInt8)) (k : Nat) (h : k < l.length) : cellsP ((l.take (k + 1)).map lowP) = cellsP ((l.take k).map lowP) ++ [strV (lowerL l[k].1), strV l[k].2] := by
  rw [List.take_succ_eq_append_getElem h, List.map_append]
  exact cellsP_snoc _ _

set_option maxRecDepth 4000 in
set_option maxHeartbeats 4000000 in
theorem lawLetters_any (x : SlArg (List UInt8 × List UInt8)) (w : World) (hx : Rd w 2 (.slice x.A x.n x.c) x.n (cellsP x.l) ∧ ∀ q ∈ x.l, q.1.length ≤ maxLen ∧ q.2.length ≤ maxLen) (hm : Mon w) :
    Calls Tryd.prog 11 #[.slice x.A x.n x.c] w fun e w' => e = .returned (.bool true) ∧ Below w.heap.size w w' := by
  obtain ⟨A, n, c, l⟩ := x
  obtain ⟨h, _⟩ := hx
  simp only at h ⊢
  have hlen := h.len
  have hcap := h.cap
  unfold maxLen at hcap
  obtain ⟨hca, hcb⟩ := hcap
  obtain ⟨i0, hi, hz0, hz1, hz2⟩ := info_parts Tryd.infoQ53
  cases hl : lightC l
  · have hL := Lib.hid hl
    clear hl
    go_enter Tryd.func11, Tryd.ntmps11
    go_wp2_with fail
    refine (light13_any A n c l _ h).mono ?_
    rintro e w1 ⟨rfl, hb1⟩
    rw [hL.out]
    have hm1 := hm.next hb1
    go_wp2_with fail
    refine (awake13_any _ hm1).mono ?_
    rintro e w2 ⟨rfl, hb2⟩
    have hb := bel_call hb1 hb2
    go_wp2
    go_ret
    exact ⟨rfl, hb⟩
  · have hL := Lib.hid hl
    obtain ⟨h40, h300⟩ := lightC_lens hl
    have hlb : ∀ p ∈ l, p.1.length ≤ 4294967296 ∧ p.2.length ≤ 4294967296 := fun p hp => by have := h300 p hp; omega
    have hlb2 : ∀ p ∈ l.map lowP, p.1.length ≤ 4294967296 ∧ p.2.length ≤ 4294967296 := fun p hp => by
      obtain ⟨q, hq, rfl⟩ := List.mem_map.1 hp
      have := hlb q hq
      unfold lowP lowerL
      simpa using this
    have htw := Lib.hid (read_low l)
    clear hl
    subst hlen
    go_enter Tryd.func11, Tryd.ntmps11
    go_wp2_with fail
    refine (light13_any A l.length c l _ h).mono ?_
    rintro e w1 ⟨rfl, hb1⟩
    rw [hL.out]
    go_wp2
    go_loopw [3, 4] (fun v i wr => ∃ k : Nat, k ≤ l.length ∧ i = .int .i64 k ∧ wr.ownsRow w.heap.size 53 2 v k (cellsP ((l.take k).map lowP)) ∧ Below w.heap.size w wr) (fun _ i _ => l.length - (intOf i).toNat)
    case atStart => exact ⟨0, Nat.zero_le _, rfl, World.ownsRow_lit w1 #[] 0 hb1.size (by unfold maxLen; omega) rfl, bel_alloc hb1 _⟩
    case round =>
      clear hb1
      obtain ⟨k, hk, rfl, hown, hbel⟩ := hrel
      by_cases hlt : k < l.length
      · have hki : (k : Int) < l.length := by omega
        obtain ⟨b, off, rfl, hb, hx⟩ := h.pairs hlt
        obtain ⟨hxa, hxb⟩ := hx k hlt
        have hsn := Lib.hid (map_take_low l k hlt)
        obtain ⟨hs1, hs2⟩ := hlb _ (List.getElem_mem hlt)
        have hS0 : ∀ w', Below w.heap.size w w' → w'.cell? ⟨b, off + k * 2, none⟩ = some (.string (S l[k].1)) ∧ w'.cell? ⟨b, off + k * 2 + 1, none⟩ = some (.string (S l[k].2)) := fun w' hw' =>
          ⟨(hw'.cell (p := ⟨b, off + k * 2, none⟩) hb).trans hxa, (hw'.cell (p := ⟨b, off + k * 2 + 1, none⟩) hb).trans hxb⟩
        clear hx hxa hxb
        generalize l[k] = pk at *
        obtain ⟨pa, pb⟩ := pk
        simp only at hS0 hs1 hs2 hsn
        have hsa : (S pa).size ≤ 4294967296 := by rw [S_size]; exact hs1
        have hbelD := hbel.drew
        have hownD := hown.drew
        obtain ⟨hq1, hq2⟩ := hS0 _ hbel
        go_wp2
        go_region_held3 (fun w' => w'.cell? ⟨b, off + k * 2, none⟩ = some (.string (S pa)) ∧ w'.cell? ⟨b, off + k * 2 + 1, none⟩ = some (.string (S pb)))
          (first | exact hS0 _ (by assumption) | exact hS0 _ (bel_alloc hB4 _))
          (first | (refine step_push_at rfl _ _ 39 (by rfl) w.heap.size 53 i0 (.agg #[.string ByteArray.empty, .string ByteArray.empty]) 2 32 Tryd.underlying39 hi hz0 hz1 hz2 rfl (by decide) _ _ _ (by rfl) ho4 _ _ (by rfl) (by rfl) rfl (by intro u hu; simp at hu; rcases hu with rfl | rfl <;> rfl) (by unfold maxLen; omega) (by omega) hB4.size hB4 ?_; intro v' w5 ho5 hg5 hm5 hB5 hs5) | (go_at_call 31; refine (refLower_any _ _ hsa).mono ?_; rintro e w4 ⟨rfl, hb4⟩; rw [S_toList]; have hB4 := bel_call hbelD hb4; have ho4 := own_below hownD hb4))
        clear hbelD hownD hq1 hq2 hb4 hB4 ho4 hg5 hm5 hS0 hown hbel
        go_wp2
        go_roundw
        case rel => exact ⟨k + 1, by omega, by go_num, by rw [hsn.out]; exact ho5, hB5⟩
        case measure => simp [intOf]; omega
      · obtain rfl : k = l.length := by omega
        rw [List.take_length] at hown
        obtain ⟨A3, c3, rfl⟩ := own_form hown
        have hrd3 := Rd.of_own hown
        have hr3 := h.below hbel
        have hb3 := hbel
        clear hown hbel
        go_wp2_with fail
        refine (own12_any A3 l.length c3 (l.map lowP) _ hrd3 (by omega)).mono ?_
        rintro e w4 ⟨A4, c4, rfl, hown4, hb4⟩
        have hrd4 := Rd.of_own hown4
        have hr4 := hr3.below hb4
        have hbel4 := bel_call hb3 hb4
        have hm4 := hm.next hbel4
        clear hown4 hb4 hr3 hb3 hrd3
        go_wp2_with fail
        refine (attrRead_any A4 l.length c4 (l.map lowP) _ hrd4 hlb2 hm4).mono ?_
        rintro e w5 ⟨rfl, hb5⟩
        rw [htw.out]
        have hr5 := hr4.below hb5
        have hbel5 := bel_call hbel4 hb5
        clear hrd4 hr4 hbel4 hb5 hm4
        go_wp2_with fail
        refine (own12_any A l.length c l _ hr5 (by omega)).mono ?_
        rintro e w6 ⟨A6, c6, rfl, hown6, hb6⟩
        have hrd6 := Rd.of_own hown6
        have hbel6 := bel_call hbel5 hb6
        have hm6 := hm.next hbel6
        clear hown6 hb6 hr5 hbel5
        go_wp2_with fail
        refine (attrRead_any A6 l.length c6 l _ hrd6 hlb hm6).mono ?_
        rintro e w7 ⟨rfl, hb7⟩
        have hbel7 := bel_call hbel6 hb7
        have hm7 := hm.next hbel7
        clear hrd6 hbel6 hb7 hm6
        generalize readT l = F at *
        go_wp2_with fail
        refine (awake13_any _ hm7).mono ?_
        rintro e w8 ⟨rfl, hb8⟩
        have hb := bel_call hbel7 hb8
        go_wp2
        go_ret
        exact ⟨rfl, hb⟩
end Go.Proofs.YtagiolhciplniaaDoor
