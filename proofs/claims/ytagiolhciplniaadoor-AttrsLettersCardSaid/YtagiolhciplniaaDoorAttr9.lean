/-
  What any attributes say.
-/
import Derived.Test.YtagiolhciplniaaDoorAttr8
namespace Go.Proofs.YtagiolhciplniaaDoor
open Go.RowKit Go.Deep Go.WideShapes
set_option linter.unusedVariables false

theorem Tryd.un53 : Tryd.prog.underlying 53 = some (.struct (Tryd.prog.fieldsOf 53)) := by kernel_rfl
theorem Tryd.fl53 : (Tryd.prog.fieldsOf 53).toList.map (fun f => (f.name, f.type, f.offset)) = [("Name", 9, 0), ("Value", 9, 1)] := by kernel_rfl
section
variable {H : Type} {enc : TypeId × Value → H} {w : World} {base : Nat} {spare : Nat → Bool} {held : Bool}
theorem pair_cells {fuel : Nat} {cs : List Value} {x : DataW H × List MemPlace} (h : DataW.trod enc Tryd.prog w base spare held fuel 53 cs = some x) :
    ∃ a b : ByteArray, cs = [.string a, .string b] ∧ a.size ≤ maxLen ∧ b.size ≤ maxLen := by
  obtain ⟨xs, n, _, _, hlen, hxl, hf⟩ := DataW.trod_struct Tryd.un53 h
  have hfl := Tryd.fl53
  have h1 : Tryd.prog.cellsOf 9 = 1 := by kernel_rfl
  have h2 : Tryd.prog.cellsOf 53 = 2 := by kernel_rfl
  rcases hl : (Tryd.prog.fieldsOf 53).toList with _ | ⟨f0, _ | ⟨f1, _ | ⟨f2, r⟩⟩⟩
  · rw [hl] at hfl; simp at hfl
  · rw [hl] at hfl; simp at hfl
  · rw [hl] at hfl
    simp only [List.map_cons, List.map_nil, List.cons.injEq, Prod.mk.injEq] at hfl
    obtain ⟨⟨_, t0, o0⟩, ⟨_, t1, o1⟩, _⟩ := hfl
    have e0 : (Tryd.prog.fieldsOf 53)[0]? = some f0 := by rw [← Array.getElem?_toList, hl]; rfl
    have e1 : (Tryd.prog.fieldsOf 53)[1]? = some f1 := by rw [← Array.getElem?_toList, hl]; rfl
    have hsz : (Tryd.prog.fieldsOf 53).size = 2 := by rw [← Array.length_toList, hl]; rfl
    have g0 := hf 0 f0 e0
    have g1 := hf 1 f1 e1
    rw [t0, o0, h1] at g0
    rw [t1, o1, h1] at g1
    rw [h2] at hlen
    rw [hsz] at hxl
    match cs, hlen, xs, hxl with
    | [c0, c1], _, [x0, x1], _ =>
      obtain ⟨a, ha, _, ha'⟩ := DataW.trod_string Tryd.underlying9 g0
      obtain ⟨b, hb, _, hb'⟩ := DataW.trod_string Tryd.underlying9 g1
      simp at ha hb
      exact ⟨a, b, by rw [ha, hb], ha', hb'⟩
  · rw [hl] at hfl; simp at hfl

theorem open_pairs {base0 : Nat} {v : Value} {d : DataW H} {p : List MemPlace} (hval : Value.okWide Tryd.prog w .any base0 39 v) (h : DataW.Trod enc Tryd.prog w 0 (fun _ => true) true 39 v d p) :
    ∃ x : SlArg (List UInt8 × List UInt8), v = .slice x.A x.n x.c ∧ Rd w 2 (.slice x.A x.n x.c) x.n (cellsP x.l) ∧ ∀ q ∈ x.l, q.1.length ≤ maxLen ∧ q.2.length ≤ maxLen := by
  obtain ⟨a0, len0, cap0, rfl⟩ := okWide_slice Tryd.underlying39 hval
  obtain ⟨fuel, hf⟩ := h
  have h2 : Tryd.prog.cellsOf 53 = 2 := by kernel_rfl
  rcases open_slice Tryd.underlying39 hf with ⟨hcs, _⟩ | ⟨a, len, cap, m, n, D, Pl, hcs, hb, hl, hm, hmm, hx, hel⟩
  · simp [Value.cells] at hcs
    obtain ⟨rfl, rfl, rfl⟩ := hcs
    exact ⟨⟨none, 0, 0, []⟩, rfl, ⟨rfl, none, 0, rfl, Nat.le_refl _, by simp [maxLen], .inl rfl⟩, by simp⟩
  · simp [Value.cells] at hcs
    obtain ⟨rfl, rfl, rfl⟩ := hcs
    rw [h2] at hel
    have hlm : len0 ≤ m := by rw [hmm]; split <;> omega
    obtain ⟨l, hll, hp, hR⟩ := rd_of_cells (sz := 2) (fun q : List UInt8 × List UInt8 => [strV q.1, strV q.2]) (fun q => rfl) (by decide) (p := fun q => q.1.length ≤ maxLen ∧ q.2.length ≤ maxLen) hl hm (fun i hi => by
      obtain ⟨cs', hc, ht⟩ := hel i (by omega)
      obtain ⟨x, y, rfl, hx1, hy1⟩ := pair_cells ht
      obtain ⟨_, _, hat⟩ := World.cells?_some hc
      refine ⟨(x.toList, y.toList), ⟨by rw [← size_toList]; exact hx1, by rw [← size_toList]; exact hy1⟩, fun j hj => ?_⟩
      rw [← Go.Deep.add_add, hat j hj]
      simp [strV, S_of])
    exact ⟨⟨some a, len0, cap0, l⟩, rfl, hR, hp⟩
end

@[go_sem] theorem Tryd.eqgFR : Tryd.prog.eqGuardType Tryd.prog.depth 42 = false := by kernel_rfl
theorem Tryd.stFR : Tryd.prog.stoodInHeld 42 = false := by kernel_rfl
theorem Tryd.unFR : Tryd.prog.underlying 42 = some (.struct (Tryd.prog.fieldsOf 42)) := by kernel_rfl
theorem Tryd.flFR : (Tryd.prog.fieldsOf 42).toList.map (fun f => (f.name, f.type, f.offset)) = [("HasExpires", 4, 0), ("HasAge", 4, 1), ("HasDomain", 4, 2), ("HasPath", 4, 3), ("Expires", 3, 4), ("Age", 3, 5), ("Domain", 9, 6), ("Path", 9, 7), ("Secure", 4, 8), ("HttpOnly", 4, 9)] := by kernel_rfl
set_option maxRecDepth 100000 in
@[go_sem ↓] theorem Tryd.eqlFR (W : World) (f : Ff) : (Op.equalIn 10000 42 (.agg (ffC f)) (.agg (ffC f))).run Tryd.prog W = .ok true W := by
  unfold ffC
  rw [run_equalIn_struct W 9999 42 _ _ Tryd.unFR Tryd.stFR]
  have h := Tryd.flFR
  rcases hl : (Tryd.prog.fieldsOf 42).toList with _ | ⟨f0, _ | ⟨f1, _ | ⟨f2, _ | ⟨f3, _ | ⟨f4, _ | ⟨f5, _ | ⟨f6, _ | ⟨f7, _ | ⟨f8, _ | ⟨f9, _ | ⟨f10, r⟩⟩⟩⟩⟩⟩⟩⟩⟩⟩⟩
  · rw [hl] at h; simp at h
  · rw [hl] at h; simp at h
  · rw [hl] at h; simp at h
  · rw [hl] at h; simp at h
  · rw [hl] at h; simp at h
  · rw [hl] at h; simp at h
  · rw [hl] at h; simp at h
  · rw [hl] at h; simp at h
  · rw [hl] at h; simp at h
  · rw [hl] at h; simp at h
  · rw [hl] at h
    simp only [List.map_cons, List.map_nil, List.cons.injEq, Prod.mk.injEq] at h
    obtain ⟨⟨a0, t0, o0⟩, ⟨a1, t1, o1⟩, ⟨a2, t2, o2⟩, ⟨a3, t3, o3⟩, ⟨a4, t4, o4⟩, ⟨a5, t5, o5⟩, ⟨a6, t6, o6⟩, ⟨a7, t7, o7⟩, ⟨a8, t8, o8⟩, ⟨a9, t9, o9⟩, _⟩ := h
    simp [Op.eqFields, a0, t0, o0, a1, t1, o1, a2, t2, o2, a3, t3, o3, a4, t4, o4, a5, t5, o5, a6, t6, o6, a7, t7, o7, a8, t8, o8, a9, t9, o9, go_sem]
  · rw [hl] at h; simp at h

@[go_sem] theorem Tryd.eqgFP : Tryd.prog.eqGuardType Tryd.prog.depth 43 = false := by kernel_rfl
theorem Tryd.stFP : Tryd.prog.stoodInHeld 43 = false := by kernel_rfl
theorem Tryd.unFP : Tryd.prog.underlying 43 = some (.struct (Tryd.prog.fieldsOf 43)) := by kernel_rfl
theorem Tryd.flFP : (Tryd.prog.fieldsOf 43).toList.map (fun f => (f.name, f.type, f.offset)) = [("HasExpires", 4, 0), ("HasAge", 4, 1), ("HasDomain", 4, 2), ("HasPath", 4, 3), ("Expires", 3, 4), ("Age", 3, 5), ("Domain", 9, 6), ("Path", 9, 7), ("Secure", 4, 8), ("HttpOnly", 4, 9)] := by kernel_rfl
set_option maxRecDepth 100000 in
@[go_sem ↓] theorem Tryd.eqlFP (W : World) (f : Ff) : (Op.equalIn 10000 43 (.agg (ffC f)) (.agg (ffC f))).run Tryd.prog W = .ok true W := by
  unfold ffC
  rw [run_equalIn_struct W 9999 43 _ _ Tryd.unFP Tryd.stFP]
  have h := Tryd.flFP
  rcases hl : (Tryd.prog.fieldsOf 43).toList with _ | ⟨f0, _ | ⟨f1, _ | ⟨f2, _ | ⟨f3, _ | ⟨f4, _ | ⟨f5, _ | ⟨f6, _ | ⟨f7, _ | ⟨f8, _ | ⟨f9, _ | ⟨f10, r⟩⟩⟩⟩⟩⟩⟩⟩⟩⟩⟩
  · rw [hl] at h; simp at h
  · rw [hl] at h; simp at h
  · rw [hl] at h; simp at h
  · rw [hl] at h; simp at h
  · rw [hl] at h; simp at h
  · rw [hl] at h; simp at h
  · rw [hl] at h; simp at h
  · rw [hl] at h; simp at h
  · rw [hl] at h; simp at h
  · rw [hl] at h; simp at h
  · rw [hl] at h
    simp only [List.map_cons, List.map_nil, List.cons.injEq, Prod.mk.injEq] at h
    obtain ⟨⟨a0, t0, o0⟩, ⟨a1, t1, o1⟩, ⟨a2, t2, o2⟩, ⟨a3, t3, o3⟩, ⟨a4, t4, o4⟩, ⟨a5, t5, o5⟩, ⟨a6, t6, o6⟩, ⟨a7, t7, o7⟩, ⟨a8, t8, o8⟩, ⟨a9, t9, o9⟩, _⟩ := h
    simp [Op.eqFields, a0, t0, o0, a1, t1, o1, a2, t2, o2, a3, t3, o3, a4, t4, o4, a5, t5, o5, a6, t6, o6, a7, t7, o7, a8, t8, o8, a9, t9, o9, go_sem]
  · rw [hl] at h; simp at h

theorem lightC_lens {l : List (List UInt8 × List UInt8)} (h : lightC l = true) : l.length ≤ 40 ∧ ∀ p ∈ l, p.1.length ≤ 300 ∧ p.2.length ≤ 300 := by
  unfold lightC at h
  simp only [Bool.and_eq_true, decide_eq_true_eq, List.all_eq_true] at h
  refine ⟨h.1, fun p hp => ?_⟩
  have := h.2 p hp
  unfold lightQ at this
  simpa using this

set_option maxRecDepth 4000 in
set_option maxHeartbeats 4000000 in
theorem lawReads_any (x : SlArg (List UInt8 × List UInt8)) (w : World) (hx : Rd w 2 (.slice x.A x.n x.c) x.n (cellsP x.l) ∧ ∀ q ∈ x.l, q.1.length ≤ maxLen ∧ q.2.length ≤ maxLen) (hm : Mon w) :
    Calls Tryd.prog 8 #[.slice x.A x.n x.c] w fun e w' => e = .returned (.bool true) ∧ Below w.heap.size w w' := by
  obtain ⟨A, n, c, l⟩ := x
  obtain ⟨h, _⟩ := hx
  simp only at h ⊢
  have hlen := h.len
  cases hl : lightC l
  · have hL := Lib.hid hl
    clear hl
    go_enter Tryd.func8, Tryd.ntmps8
    go_wp2_with fail
    refine (light13_any A n c l _ h).mono ?_
    rintro e w1 ⟨rfl, hb1⟩
    rw [hL.out]
    have hm1 := hm.next hb1
    go_wp2_with fail
    refine (awake13_any _ hm1).mono ?_
    rintro e w2 ⟨rfl, hb2⟩
    have hb := bel_call hb1 hb2
    go_wp2
    go_ret
    exact ⟨rfl, hb⟩
  · have hL := Lib.hid hl
    obtain ⟨h40, h300⟩ := lightC_lens hl
    have hlb : ∀ p ∈ l, p.1.length ≤ 4294967296 ∧ p.2.length ≤ 4294967296 := fun p hp => by have := h300 p hp; omega
    have hn : n ≤ 4294967296 := by omega
    clear hl
    go_enter Tryd.func8, Tryd.ntmps8
    go_wp2_with fail
    refine (light13_any A n c l _ h).mono ?_
    rintro e w1 ⟨rfl, hb1⟩
    rw [hL.out]
    have hr1 := h.below hb1
    go_wp2_with fail
    refine (own12_any A n c l _ hr1 hn).mono ?_
    rintro e w2 ⟨A2, c2, rfl, hown2, hb2⟩
    have hrd2 := Rd.of_own hown2
    have hr2 := hr1.below hb2
    have hbel2 := bel_call hb1 hb2
    have hm2 := hm.next hbel2
    clear hr1 hown2 hb1 hb2
    go_wp2_with fail
    refine (attrRead_any A2 n c2 l _ hrd2 hlb hm2).mono ?_
    rintro e w3 ⟨rfl, hb3⟩
    have hr3 := hr2.below hb3
    have hbel3 := bel_call hbel2 hb3
    clear hrd2 hr2 hbel2 hb3 hm2
    go_wp2_with fail
    refine (refRead13_any A n c l _ hr3 hlb).mono ?_
    rintro e w4 ⟨rfl, hb4⟩
    have hbel4 := bel_call hbel3 hb4
    have hm4 := hm.next hbel4
    clear hr3 hbel3 hb4
    generalize readT l = F at *
    go_wp2_with fail
    refine (awake13_any _ hm4).mono ?_
    rintro e w5 ⟨rfl, hb5⟩
    have hb := bel_call hbel4 hb5
    go_wp2
    go_ret
    exact ⟨rfl, hb⟩
end Go.Proofs.YtagiolhciplniaaDoor
