/-
  Pairs in rows: whether two are the same; copies of them.
-/
import Derived.Test.YtonohkckflgcbaaHeader3
import Derived.Laws.StructEq
namespace Go.Proofs.Ytonohkckflgcbaa
open Go.RowKit
set_option linter.unusedVariables false

theorem Rd.len {w : World} {n c : Nat} {A : Option Addr} {l : List (List UInt8 × List UInt8)} (h : Rd w 2 (.slice A n c) n (cellsP l)) : l.length = n := by
  have := h.1
  rw [cellsP_len] at this
  omega
theorem Rd.pairs {w : World} {n c : Nat} {A : Option Addr} {l : List (List UInt8 × List UInt8)} (h : Rd w 2 (.slice A n c) n (cellsP l)) {k : Nat} (hk : k < l.length) :
    ∃ b off, A = some ⟨b, off, none⟩ ∧ b < w.heap.size ∧ ∀ j (hj : j < l.length), w.cell? ⟨b, off + j * 2, none⟩ = some (.string (S l[j].1)) ∧ w.cell? ⟨b, off + j * 2 + 1, none⟩ = some (.string (S l[j].2)) := by
  have hl := h.len
  obtain ⟨b, off, hA, hb, hc⟩ := h.at_ (by omega)
  refine ⟨b, off, hA, hb, fun j hj => ?_⟩
  have := cellsP_at l j hj
  refine ⟨?_, ?_⟩
  · rw [hc (j * 2) (by rw [cellsP_len]; omega), this.1]; rfl
  · rw [Nat.add_assoc, hc (j * 2 + 1) (by rw [cellsP_len]; omega), this.2]; rfl

@[go_sem] theorem Try.eqg24 : Try.prog.eqGuardType Try.prog.depth 24 = false := by kernel_rfl
theorem Try.st24 : Try.prog.stoodInHeld 24 = false := by kernel_rfl
theorem Try.un24 : Try.prog.underlying 24 = some (.struct (Try.prog.fieldsOf 24)) := by kernel_rfl
theorem Try.fl24 : (Try.prog.fieldsOf 24).toList.map (fun f => (f.name, f.type, f.offset)) = [("Name", 9, 0), ("Value", 9, 1)] := by kernel_rfl
@[go_sem] theorem Try.eql24 (W : World) (a b c d : ByteArray) : (Op.equalIn 10000 24 (.agg #[.string a, .string b]) (.agg #[.string c, .string d])).run Try.prog W = .ok ((a.toList == c.toList) && (b.toList == d.toList)) W := by
  rw [run_equalIn_struct W 9999 24 _ _ Try.un24 Try.st24]
  have h := Try.fl24
  rcases hl : (Try.prog.fieldsOf 24).toList with _ | ⟨f0, _ | ⟨f1, _ | ⟨f2, r⟩⟩⟩
  · rw [hl] at h; simp at h
  · rw [hl] at h; simp at h
  · rw [hl] at h
    simp only [List.map_cons, List.map_nil, List.cons.injEq, Prod.mk.injEq] at h
    obtain ⟨⟨h1, h2, h3⟩, ⟨h4, h5, h6⟩, _⟩ := h
    simp [Op.eqFields, h1, h2, h3, h4, h5, h6, go_sem]
    by_cases ha : a.toList = c.toList <;> by_cases hb : b.toList = d.toList <;> simp [ha, hb]
  · rw [hl] at h; simp at h

@[go_sem] theorem Try.eqg29 : Try.prog.eqGuardType Try.prog.depth 29 = false := by kernel_rfl
theorem Try.st29 : Try.prog.stoodInHeld 29 = false := by kernel_rfl
theorem Try.un29 : Try.prog.underlying 29 = some (.struct (Try.prog.fieldsOf 29)) := by kernel_rfl
theorem Try.fl29 : (Try.prog.fieldsOf 29).toList.map (fun f => (f.name, f.type, f.offset)) = [("Name", 9, 0), ("Value", 9, 1)] := by kernel_rfl
@[go_sem] theorem Try.eql29 (W : World) (a b c d : ByteArray) : (Op.equalIn 10000 29 (.agg #[.string a, .string b]) (.agg #[.string c, .string d])).run Try.prog W = .ok ((a.toList == c.toList) && (b.toList == d.toList)) W := by
  rw [run_equalIn_struct W 9999 29 _ _ Try.un29 Try.st29]
  have h := Try.fl29
  rcases hl : (Try.prog.fieldsOf 29).toList with _ | ⟨f0, _ | ⟨f1, _ | ⟨f2, r⟩⟩⟩
  · rw [hl] at h; simp at h
  · rw [hl] at h; simp at h
  · rw [hl] at h
    simp only [List.map_cons, List.map_nil, List.cons.injEq, Prod.mk.injEq] at h
    obtain ⟨⟨h1, h2, h3⟩, ⟨h4, h5, h6⟩, _⟩ := h
    simp [Op.eqFields, h1, h2, h3, h4, h5, h6, go_sem]
    by_cases ha : a.toList = c.toList <;> by_cases hb : b.toList = d.toList <;> simp [ha, hb]
  · rw [hl] at h; simp at h

theorem pairs_eq {l m : List (List UInt8 × List UInt8)} (h : l.length = m.length) (he : ∀ j (hj : j < l.length) (hj' : j < m.length), l[j].1 = m[j].1 ∧ l[j].2 = m[j].2) : l = m :=
  List.ext_getElem h fun j h1 h2 => Prod.ext (he j h1 h2).1 (he j h1 h2).2

set_option maxHeartbeats 1000000 in
theorem same12_any (A1 A2 : Option Addr) (n1 c1 n2 c2 : Nat) (l1 l2 : List (List UInt8 × List UInt8)) (w : World) (h1 : Rd w 2 (.slice A1 n1 c1) n1 (cellsP l1)) (h2 : Rd w 2 (.slice A2 n2 c2) n2 (cellsP l2)) :
    Calls Try.prog 14 #[.slice A1 n1 c1, .slice A2 n2 c2] w fun e w' => e = .returned (.bool (decide (l1 = l2))) ∧ Below w.heap.size w w' := by
  have hl1 := h1.len
  have hl2 := h2.len
  have hcap1 := h1.cap
  have hcap2 := h2.cap
  unfold maxLen at hcap1 hcap2
  obtain ⟨hca1, hcb1⟩ := hcap1
  obtain ⟨hca2, hcb2⟩ := hcap2
  subst hl1 hl2
  by_cases hne : l1.length = l2.length
  · have hne1 : ((l1.length : Int) != l2.length) = false := by rw [bne_eq_false_iff_eq]; omega
    have hle : l1.length ≤ l2.length ∧ l2.length ≤ l1.length := by omega
    have hE := Lib.hid hne
    clear hne
    obtain ⟨hle1, hle2⟩ := hle
    go_enter Try.func14, Try.ntmps14
    go_wp2
    go_loopw [5] (fun i wr => ∃ k : Nat, k ≤ l1.length ∧ i = .int .i64 k ∧ Below w.heap.size w wr ∧ Hid (∀ j (hj : j < l1.length) (hj' : j < l2.length), j < k → l1[j].1 = l2[j].1 ∧ l1[j].2 = l2[j].2)) (fun i _ => l1.length - (intOf i).toNat)
    case atStart => exact ⟨0, Nat.zero_le _, rfl, Below.refl _ _, fun j _ _ hj => absurd hj (by omega)⟩
    case round =>
      obtain ⟨k, hk, rfl, hbel, hall⟩ := hrel
      by_cases hlt : k < l1.length
      · have hlt2 : k < l2.length := by omega
        have hlti : (k : Int) < l1.length := by omega
        have hlti2 : (k : Int) < l2.length := by omega
        obtain ⟨b1, o1, rfl, hb1, hx1⟩ := (h1.below hbel).pairs hlt
        obtain ⟨b2, o2, rfl, hb2, hx2⟩ := (h2.below hbel).pairs hlt2
        obtain ⟨hx1a, hx1b⟩ := hx1 k hlt
        obtain ⟨hx2a, hx2b⟩ := hx2 k hlt2
        clear hx1 hx2
        go_wp2
        have hcs : (l1[k].1 = l2[k].1 ∧ l1[k].2 = l2[k].2) ∨ (¬ l1[k].1 = l2[k].1 ∧ Hid (¬ (l1 = l2))) ∨ (l1[k].1 = l2[k].1 ∧ ¬ l1[k].2 = l2[k].2 ∧ Hid (¬ (l1 = l2))) := by
          by_cases h1 : l1[k].1 = l2[k].1
          · by_cases h2 : l1[k].2 = l2[k].2
            · exact Or.inl ⟨h1, h2⟩
            · exact Or.inr (Or.inr ⟨h1, h2, fun e => h2 (by subst e; rfl)⟩)
          · exact Or.inr (Or.inl ⟨h1, fun e => h1 (by subst e; rfl)⟩)
        rcases hcs with ⟨e1, e2⟩ | ⟨e1, hD⟩ | ⟨e1, e2, hD⟩
        · have hS := Lib.hid (And.intro e1 e2)
          go_quiet (fail)
          go_wp2
          go_roundw
          case rel => exact ⟨k + 1, by omega, by go_num, below_drews hbel _, fun j hj hj' hjk => by
            by_cases e : j = k
            · subst e; exact hS.out
            · exact hall.out j hj hj' (by omega)⟩
          case measure => simp [intOf]; omega
        · go_quiet (fail)
          go_wp2
          go_ret
          exact ⟨ret_bool (decide_eq_false hD.out).symm, below_drews hbel _⟩
        · go_quiet (fail)
          go_wp2
          go_ret
          exact ⟨ret_bool (decide_eq_false hD.out).symm, below_drews hbel _⟩
      · obtain rfl : k = l1.length := by omega
        go_wp2
        go_ret
        exact ⟨ret_bool (by rw [pairs_eq hE.out (fun j a b => hall.out j a b a)]; simp), hbel⟩
  · have hne1 : ((l1.length : Int) != l2.length) = true := by rw [bne_iff_ne]; omega
    go_enter Try.func14, Try.ntmps14
    go_wp2
    go_ret
    refine ⟨ret_bool (Eq.symm (decide_eq_false ?_)), Below.refl _ _⟩
    intro e
    exact hne (by rw [e])
end Go.Proofs.Ytonohkckflgcbaa
