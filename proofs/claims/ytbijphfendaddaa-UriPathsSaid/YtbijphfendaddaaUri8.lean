/-
  The laws UriTexts and UriPaths.
-/
import Derived.Test.YtbijphfendaddaaUri7
import Derived.Test.YtbijphfendaddaaRows2
import Derived.ProofKit
import Derived.OpenShut
namespace Go.Proofs.Ytbijphfendaddaa
open Go.RowKit Go.Deep Go.WideShapes
set_option linter.unusedVariables false

section
variable {H : Type} {enc : TypeId × Value → H} {w : World} {base : Nat} {spare : Nat → Bool} {held : Bool}
set_option maxRecDepth 100000 in
theorem req_cells {fuel : Nat} {cs : List Value} {x : DataW H × List MemPlace} (h : DataW.trod enc Try.prog w base spare held fuel 37 cs = some x) :
    ∃ (v0 v1 : ByteArray) (v2 v3 : Bool), cs = [.string v0, .string v1, .bool v2, .bool v3] ∧ v0.size ≤ maxLen ∧ v1.size ≤ maxLen ∧ ∀ n, n = v0.size ∨ n = v1.size → n ∈ x.1.weights Try.prog 37 := by
  obtain ⟨xs, n, _, hx, hlen, hxl, hf⟩ := DataW.trod_struct Try.unRq h
  have hfl := Try.flRq
  have zB : Try.prog.cellsOf 4 = 1 := by kernel_rfl
  have zS : Try.prog.cellsOf 9 = 1 := by kernel_rfl
  have hsz0 : Try.prog.cellsOf 37 = 4 := by kernel_rfl
  rcases hl : (Try.prog.fieldsOf 37).toList with _ | ⟨f0, _ | ⟨f1, _ | ⟨f2, _ | ⟨f3, _ | ⟨f4, r⟩⟩⟩⟩⟩
  · rw [hl] at hfl; simp at hfl
  · rw [hl] at hfl; simp at hfl
  · rw [hl] at hfl; simp at hfl
  · rw [hl] at hfl; simp at hfl
  · rw [hl] at hfl
    simp only [List.map_cons, List.map_nil, List.cons.injEq, Prod.mk.injEq] at hfl
    obtain ⟨⟨_, t0, o0⟩, ⟨_, t1, o1⟩, ⟨_, t2, o2⟩, ⟨_, t3, o3⟩, _⟩ := hfl
    have e0 : (Try.prog.fieldsOf 37)[0]? = some f0 := by rw [← Array.getElem?_toList, hl]; rfl
    have e1 : (Try.prog.fieldsOf 37)[1]? = some f1 := by rw [← Array.getElem?_toList, hl]; rfl
    have e2 : (Try.prog.fieldsOf 37)[2]? = some f2 := by rw [← Array.getElem?_toList, hl]; rfl
    have e3 : (Try.prog.fieldsOf 37)[3]? = some f3 := by rw [← Array.getElem?_toList, hl]; rfl
    have hsz : (Try.prog.fieldsOf 37).size = 4 := by rw [← Array.length_toList, hl]; rfl
    have g0 := hf 0 f0 e0
    rw [t0, o0, zS] at g0
    have g1 := hf 1 f1 e1
    rw [t1, o1, zS] at g1
    have g2 := hf 2 f2 e2
    rw [t2, o2, zB] at g2
    have g3 := hf 3 f3 e3
    rw [t3, o3, zB] at g3
    rw [hsz0] at hlen
    rw [hsz] at hxl
    match cs, hlen, xs, hxl with
    | [c0, c1, c2, c3], _, [x0, x1, x2, x3], _ =>
      obtain ⟨v0, ha0, hd0, hb0⟩ := DataW.trod_string Try.underlying9 g0
      obtain ⟨v1, ha1, hd1, hb1⟩ := DataW.trod_string Try.underlying9 g1
      obtain ⟨v2, ha2, _⟩ := DataW.trod_bool Try.underlying4 g2
      obtain ⟨v3, ha3, _⟩ := DataW.trod_bool Try.underlying4 g3
      simp at ha0 ha1 ha2 ha3
      refine ⟨v0, v1, v2, v3, by rw [ha0, ha1, ha2, ha3], hb0, hb1, ?_⟩
      intro n hn
      rw [hx]
      simp only [List.map_cons, List.map_nil, DataW.weights, Try.unRq, hl, DataW.weightsEach, List.mem_append, List.map_cons]
      rw [hd0, hd1]
      rw [Lib.size_eq v0, Lib.size_eq v1] at hn
      simp only [DataW.weights, List.mem_singleton]
      rcases hn with hn | hn
      · exact .inl hn
      · exact .inr (.inl hn)
  · rw [hl] at hfl; simp at hfl

theorem open_req {base0 : Nat} {v : Value} {d : DataW H} {p : List MemPlace} (hval : Value.okWide Try.prog w .any base0 37 v) (h : DataW.Trod enc Try.prog w 0 (fun _ => true) true 37 v d p) (hz : ∀ n ∈ d.weights Try.prog 37, n ≤ reachBytes) :
    ∃ x : Rq, v = .agg (rqC x) ∧ x.h.length ≤ 140737488351232 ∧ x.p.length ≤ 140737488351232 := by
  obtain ⟨cs, rfl, hcs⟩ := okWide_struct Try.unRq hval
  obtain ⟨fuel, hf⟩ := h
  obtain ⟨s0, s1, b2, b3, e, h0, h1, hw⟩ := req_cells hf
  have e2 : cs.toList = [.string s0, .string s1, .bool b2, .bool b3] := by simpa [Value.cells] using e
  have e3 : cs = #[.string s0, .string s1, .bool b2, .bool b3] := by rw [← Array.toList_inj]; exact e2
  subst e3
  have z0 := hz _ (hw _ (.inl rfl))
  have z1 := hz _ (hw _ (.inr rfl))
  rw [size_toList] at z0 z1
  exact ⟨⟨s0.toList, s1.toList, b2, b3⟩, by unfold rqC; rw [S_of, S_of], z0, z1⟩
end

theorem rightU_parts {r : Rq} (h : rightU r = true) : canonB r.h = true ∧ 0 < r.p.length ∧ r.p.getD 0 0 = 47 ∧ visB r.p = true ∧ findAny r.p [63, 35] = r.p.length ∧ (begU r.s).length + r.h.length + r.p.length ≤ 1024 := by
  unfold rightU slashB fragB fullB at h
  simp only [Bool.and_eq_true, decide_eq_true_eq, beq_iff_eq] at h
  exact ⟨h.1.1.1.1, h.1.1.1.2.1, h.1.1.1.2.2, h.1.1.2, h.1.2, h.2⟩
theorem text_parse {r : Rq} (h : rightU r = true) : parseU (begU r.s ++ (r.h ++ r.p)) = (⟨r.h, r.p, r.s, false⟩, 0) := by
  obtain ⟨h1, h2, h3, h4, h5, h6⟩ := rightU_parts h
  have := parse_mk (sec := r.s) (h := r.h) (t := []) (p := r.p) (q := []) h1 (.inl rfl) rfl rfl (by simp) h3 h2 h4 h5 (.inl rfl) rfl (by simp; omega)
  simpa using this

set_option maxHeartbeats 8000000 in
theorem uriTexts_any (r : Rq) (w : World) (hr : r.h.length ≤ 140737488351232 ∧ r.p.length ≤ 140737488351232) (hm : Mx w) :
    Calls Try.prog 8 #[.agg (rqC r)] w fun e w' => e = .returned (.bool true) ∧ Below w.heap.size w w' := by
  have hB0 := bel_alloc (Below.refl w.heap.size w) (.cells (rqC r) 37)
  have hK0 := Blk.new_ w 37 (rqC r)
  have hm0 := hm.next hB0
  obtain ⟨h1, h2⟩ := hr
  by_cases hlong : 2000 < r.h.length ∨ 2000 < r.p.length
  · have hcs : ((2000 : Int) < r.h.length) ∨ (decide ((2000 : Int) < r.h.length) = false ∧ (2000 : Int) < r.p.length) := by
      by_cases h : 2000 < r.h.length
      · exact .inl (by omega)
      · exact .inr ⟨decide_eq_false (by omega), by omega⟩
    clear hlong
    rcases hcs with hi | ⟨hi, hi2⟩
    all_goals
      go_enter Try.func8, Try.ntmps8
      go_wp2_with fail
      refine (awake10_any _ (by exact hm0)).mono ?_
      rintro e w1 ⟨rfl, hb1⟩
      have hbel := bel_call hB0 hb1
      go_wp2
      go_ret
      exact ⟨rfl, hbel⟩
  have hi1 : (r.h.length : Int) ≤ 2000 := by omega
  have hi2 : (r.p.length : Int) ≤ 2000 := by omega
  clear hlong
  have hl1 : r.h.length ≤ 4294967280 := by omega
  have hl2 : r.p.length ≤ 4294967280 := by omega
  cases hR : rightU r
  · have hRH := Lib.hid hR
    have ht := uText_any r
    rw [hR] at ht
    clear hR
    go_enter Try.func8, Try.ntmps8
    go_wp2_with fail
    refine (ht _ hl1 hl2).mono ?_
    rintro e w1 ⟨rfl, hb1⟩
    have hK1 := hK0.below hb1
    have hB1 := bel_call hB0 hb1
    obtain ⟨c0, c1, c2, c3, cf⟩ := rq_cells hK1
    clear hK0 hB0 hb1 hm0 ht
    simp only [Bool.false_eq_true, if_false]
    go_wp2_with fail
    refine (refRight10_any r _ (by omega) (by omega)).mono ?_
    rintro e w2 ⟨rfl, hb2⟩
    rw [hRH.out]
    have hK2 := hK1.below hb2
    have hB2 := bel_call hB1 hb2
    clear c0 c1 c2 c3 cf
    obtain ⟨c0, c1, c2, c3, cf⟩ := rq_cells hK2
    clear hK1 hB1 hb2
    go_wp2_with fail
    refine (uRight_any r _ hl1 hl2).mono ?_
    rintro e w3 ⟨rfl, hb3⟩
    rw [hRH.out]
    have hB3 := bel_call hB2 hb3
    have hm3 := hm.next hB3
    clear c0 c1 c2 c3 cf hK2 hB2 hb3
    go_wp2_with fail
    refine (awake10_any _ hm3).mono ?_
    rintro e w4 ⟨rfl, hb4⟩
    have hB4 := bel_call hB3 hb4
    go_wp2
    go_ret
    exact ⟨rfl, hB4⟩
  · have hRH := Lib.hid hR
    have hPH := Lib.hid (text_parse hR)
    have ht := uText_any r
    rw [hR] at ht
    have hR2 := Lib.hid (show rightU ⟨r.h, r.p, r.s, false⟩ = true from hR)
    have hlt : (begU r.s ++ (r.h ++ r.p)).length ≤ 4294967280 := by
      have : (begU r.s).length ≤ 8 := by unfold begU; split <;> decide
      simp; omega
    clear hR
    go_enter Try.func8, Try.ntmps8
    go_wp2_with fail
    refine (ht _ hl1 hl2).mono ?_
    rintro e w1 ⟨rfl, hb1⟩
    have hK1 := hK0.below hb1
    have hB1 := bel_call hB0 hb1
    obtain ⟨c0, c1, c2, c3, cf⟩ := rq_cells hK1
    clear hK0 hB0 hb1 hm0 ht
    simp only [if_true]
    generalize begU r.s ++ (r.h ++ r.p) = t at *
    go_wp2_with fail
    refine (refRight10_any r _ (by omega) (by omega)).mono ?_
    rintro e w2 ⟨rfl, hb2⟩
    rw [hRH.out]
    have hK2 := hK1.below hb2
    have hB2 := bel_call hB1 hb2
    have hm2 := hm.next hB2
    clear c0 c1 c2 c3 cf
    clear hK1 hB1 hb2
    go_wp2_with fail
    refine (uparse_any t _ hlt hm2).mono ?_
    rintro e w3 ⟨rfl, hb3⟩
    rw [hPH.out]
    have hK0' := hK2.below hb3
    have hB3' := bel_call hB2 hb3
    have hgt := (hK2.below hb3).lt
    obtain ⟨c0, c1, c2, c3, cf⟩ := rq_cells (hK2.below hb3)
    clear hK2 hB2 hm2 hb3
    unfold rqV
    rw [show rqC ⟨r.h, r.p, r.s, false⟩ = #[.string (S r.h), .string (S r.p), .bool r.s, .bool false] from rfl]
    simp only
    go_wp2_with fail
    have hS : Blk ((w3.setCell ⟨w.heap.size, 3, none⟩ (.bool false)).alloc (.cells (rqC ⟨r.h, r.p, r.s, false⟩) 37)) w.heap.size 37 (rqC ⟨r.h, r.p, r.s, false⟩) := ((hK0'.put 3 (.bool false))).alloc _
    have hX : Blk ((w3.setCell ⟨w.heap.size, 3, none⟩ (.bool false)).alloc (.cells (rqC ⟨r.h, r.p, r.s, false⟩) 37)) w3.heap.size 37 (rqC ⟨r.h, r.p, r.s, false⟩) := by
      have := Blk.new_ (w3.setCell ⟨w.heap.size, 3, none⟩ (.bool false)) 37 (rqC ⟨r.h, r.p, r.s, false⟩)
      simpa [World.setCell] using this
    have hB4 : Below w.heap.size w ((w3.setCell ⟨w.heap.size, 3, none⟩ (.bool false)).alloc (.cells (rqC ⟨r.h, r.p, r.s, false⟩) 37)) := bel_alloc (hB3'.setCell (Nat.le_refl _) _) _
    clear c0 c1 c2 c3 cf hB3'
    refine (uRight_any ⟨r.h, r.p, r.s, false⟩ _ hl1 hl2).mono ?_
    rintro e w4 ⟨rfl, hb4⟩
    rw [hR2.out]
    have hS4 := hS.below hb4
    have hX4 := hX.below hb4
    have hB5 := bel_call hB4 hb4
    have hm5 := hm.next hB5
    have he := eqRq_self ⟨r.h, r.p, r.s, false⟩
    obtain ⟨c0, c1, c2, c3, cf⟩ := rq_cells hS4
    obtain ⟨d0, d1, d2, d3, df⟩ := rq_cells hX4
    clear hS hX hB4 hb4 hK0' hS4 hX4
    simp only at c0 c1 c2 c3 d0 d1 d2 d3 he
    go_wp2_with fail
    refine (awake10_any _ hm5).mono ?_
    rintro e w5 ⟨rfl, hb5⟩
    have hB6 := bel_call hB5 hb5
    clear c0 c1 c2 c3 cf d0 d1 d2 d3 df hB5 hb5 hm5
    go_wp2
    go_ret
    exact ⟨rfl, hB6⟩
end Go.Proofs.Ytbijphfendaddaa
