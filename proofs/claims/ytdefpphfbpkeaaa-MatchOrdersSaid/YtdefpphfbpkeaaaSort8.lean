/-
  The walk: the document's sorting.
-/
import Derived.Test.YtdefpphfbpkeaaaSort7
namespace Go.Proofs.Ytdefpphfbpkeaaa
open Go.RowKit
set_option linter.unusedVariables false

/-- Elements more behind a row of the call's own, at a step of a region that draws its order. -/
theorem step_more {P : Program} {W w : World} {ops : Array Oper} {o : Oper} {a : Act} {K : Act → World → Prop} {Q : Exit → Act → World → Prop} {E : Prop} (hgd : o.guard = none) (s x : Operand) (t : TypeId)
    (ho : o.op = .call { callee := .builtin .append, args := #[s, x], argTypes := #[t, t] })
    (B : Nat) (e : TypeId) (i : TypeInfo) (z : Value) (size bytes : Nat) (ht : P.underlying t = some (.slice e)) (hi : P.info? e = some i) (hz : i.zero = some z)
    (hsize : i.size = size) (hby : i.bytes = bytes) (hzs : z.cells.size = size) (hsz : 0 < size)
    (v : Value) (n : Nat) (xs : List Value) (hs : a.eval s = v) (hown : w.ownsRow B e size v n xs)
    (A : Option Addr) (m c : Nat) (news : List Value) (hx : a.eval x = .slice A m c) (hr : Rd w size (.slice A m c) m news) (h1 : ∀ u ∈ news, u.oneCell' = true)
    (h63 : n + m ≤ maxLen) (hbytes : (n + m) * bytes ≤ 140737488355328) (hbase : B ≤ w.heap.size) (hbel : Below B W w)
    (h : ∀ v' w', w'.ownsRow B e size v' (n + m) (xs ++ news) → w.grownBy w' v.ownBlock → Below B W w' → B ≤ w'.heap.size → K (a.put o.dst v') w') :
    if Region.wanted o (yielded ops a.tmps) = true then Oper.wp P o a w K Q else E := by
  have hw : Region.wanted o (yielded ops a.tmps) = true := by simp [Region.wanted, hgd]
  rw [if_pos hw]
  obtain ⟨v', w', h2, h3, h4, h5⟩ := run_append_rd (P := P) w B t o.type e i z size bytes ht hi hz hsize hby hzs hsz v n xs hown A m c news hr h1 h63 hbytes hbase
  unfold Oper.wp execOp
  simp only [ho, resolve, invoke, builtin, Sem.run_bind, Sem.run_pure, Result.andThen_ok, List.map_toArray, List.map_cons, List.map_nil, hs, hx, h2]
  exact h v' w' h3 h4 (hbel.grown h4 hbase (fun k hk => (hown.lt k hk).1)) (by have := h4.size; omega)
theorem rd_new (w : World) (x : It) (g : Nat) (hg : w.heap.size = g) : Rd (w.alloc (.cells (cI x).toArray 51)) 11 (.slice (some ⟨g, 0, none⟩) 1 1) 1 (cI x) := by
  subst hg
  refine ⟨by simp, _, _, rfl, Nat.le_refl _, by simp [maxLen], .inr ⟨_, _, rfl, by simp, fun j hj => ?_⟩⟩
  rw [Nat.zero_add, cell_of_row _ w.heap.size j _ 51 (0, 0) (heap_alloc_new w _)]
  simp
theorem rd_new2 {w w5 : World} {x : It} {o : Obj} (hg : ((w.alloc o).alloc (.cells (cI x).toArray 51)).drew.grownBy w5 (some w.heap.size)) : Rd w5 11 (.slice (some ⟨w.heap.size + 1, 0, none⟩) 1 1) 1 (cI x) :=
  Rd.kept ((rd_new (w.alloc o) x (w.heap.size + 1) (by simp)).below (Below.refl _ _).drew) hg (fun g hg => by
    have h1 : g = w.heap.size + 1 := by simpa [Value.ownBlock] using hg.symm
    intro e; have := Option.some.inj e; omega)
theorem rd_new3 {w w5 : World} {x : It} {o : Obj} (hg : ((w.alloc (.cells (cI x).toArray 51)).alloc o).drew.grownBy w5 (some (w.heap.size + 1))) : Rd w5 11 (.slice (some ⟨w.heap.size, 0, none⟩) 1 1) 1 (cI x) :=
  Rd.kept (((rd_new w x w.heap.size rfl).alloc o).below (Below.refl _ _).drew) hg (fun g hg => by
    have h1 : g = w.heap.size := by simpa [Value.ownBlock] using hg.symm
    intro e; have := Option.some.inj e; omega)
theorem own_lit2 (w : World) (o : Obj) : ((w.alloc o).alloc (Obj.cells #[] 51)).ownsRow w.heap.size 51 11 (.slice (some ⟨w.heap.size + 1, 0, none⟩) 0 0) 0 [] := by
  have h := World.ownsRow_lit (w.alloc o) (e := 51) (size := 11) #[] 0 (Nat.le_refl _) (by unfold maxLen; omega) rfl
  have h2 := own_low h (B' := w.heap.size) (by simp)
  simpa using h2
theorem own_fin {w7 : World} {B B' k : Nat} {v7 : Value} {O : List It} {x : It} (hk : k ≤ O.length) (h : w7.ownsRow B' 51 11 v7 (k + 1 + (O.length - k)) ((O.take k).flatMap cI ++ cI x ++ (O.drop k).flatMap cI)) (hB : B ≤ B') : w7.ownsRow B 51 11 v7 (O.take k ++ [x] ++ O.drop k).length ((O.take k ++ [x] ++ O.drop k).flatMap cI) := by
  have h2 := own_low h hB
  have e1 : (O.take k ++ [x] ++ O.drop k).length = k + 1 + (O.length - k) := by simp; omega
  have e2 : (O.take k ++ [x] ++ O.drop k).flatMap cI = (O.take k).flatMap cI ++ cI x ++ (O.drop k).flatMap cI := by simp [List.flatMap_append]
  rw [e1, e2]; exact h2
theorem srt_snoc {O : List It} {x : It} {k : Nat} (hk : k ≤ O.length) (hs : Srt befI O) (h2 : ∀ y ∈ O.drop k, befI x y = true) (h1 : k = 0 ∨ ∃ y, O[k - 1]? = some y ∧ befI x y = false) :
    Srt befI (O.take k ++ [x] ++ O.drop k) ∧ StEq befI (O ++ [x]) (O.take k ++ [x] ++ O.drop k) := by
  have := ins_ok befI_swo (S1 := O.take k) (S2 := O.drop k) (x := x) (by rw [List.take_append_drop]; exact hs) h2 ?_
  · rw [List.take_append_drop] at this; exact this
  · rcases h1 with rfl | ⟨y, hy, hlt⟩
    · exact .inl (by simp)
    · rcases Nat.eq_zero_or_pos k with e | e
      · subst e; exact .inl (by simp)
      · refine .inr ⟨O.take (k - 1), y, ?_, hlt⟩
        obtain ⟨q, rfl⟩ : ∃ q, k = q + 1 := ⟨k - 1, by omega⟩
        rw [Nat.add_sub_cancel] at hy ⊢
        obtain ⟨hq, rfl⟩ := List.getElem?_eq_some_iff.1 hy
        exact List.take_succ_eq_append_getElem hq

theorem cI_take (l : List It) (k : Nat) : (l.flatMap cI).take (k * 11) = (l.take k).flatMap cI := by
  induction l generalizing k with
  | nil => simp
  | cons x r ih =>
    cases k with
    | zero => simp
    | succ k =>
      rw [List.flatMap_cons, List.take_succ_cons, List.flatMap_cons, ← ih]
      rw [List.take_append, cI_len, List.take_of_length_le (by rw [cI_len]; omega)]
      congr 2; omega
theorem cI_drop (l : List It) (k : Nat) : (l.flatMap cI).drop (k * 11) = (l.drop k).flatMap cI := by
  have h1 := List.take_append_drop (k * 11) (l.flatMap cI)
  rw [cI_take] at h1
  have h2 : (l.take k).flatMap cI ++ (l.drop k).flatMap cI = l.flatMap cI := by rw [← List.flatMap_append, List.take_append_drop]
  exact List.append_cancel_left (h1.trans h2.symm)
def SecS (w : World) (b o : Nat) (x : It) (A2 A3 : Option Addr) (n2 c2 n3 c3 : Nat) (L2 L3 : List It) : Prop := itAt w b o = some x ∧ Rd w 11 (.slice A2 n2 c2) n2 (L2.flatMap cI) ∧ Rd w 11 (.slice A3 n3 c3) n3 (L3.flatMap cI)
theorem secS_later {w w1 : World} {b o : Nat} {x : It} {A2 A3 : Option Addr} {n2 c2 n3 c3 : Nat} {L2 L3 : List It} (h : SecS w b o x A2 A3 n2 c2 n3 c3 L2 L3) (hb : Below w.heap.size w w1) : SecS w1 b o x A2 A3 n2 c2 n3 c3 L2 L3 := ⟨itAt_later h.1 hb, h.2.1.below hb, h.2.2.below hb⟩
theorem secS_of {w : World} {b o : Nat} {x : It} {A2 A3 : Option Addr} {n2 c2 n3 c3 : Nat} {L2 L3 : List It} (h1 : itAt w b o = some x) (h2 : Rd w 11 (.slice A2 n2 c2) n2 (L2.flatMap cI)) (h3 : Rd w 11 (.slice A3 n3 c3) n3 (L3.flatMap cI)) : SecS w b o x A2 A3 n2 c2 n3 c3 L2 L3 := ⟨h1, h2, h3⟩
set_option maxRecDepth 20000 in
set_option maxHeartbeats 4000000 in
theorem refSort_any (A : Option Addr) (n c : Nat) (l : List It) (w : World) (h : Rd w 11 (.slice A n c) n (l.flatMap cI)) (hn : n ≤ 100000) (hlim : Lim l) :
    Calls Try.prog 35 #[.slice A n c] w (SortPost l w) := by
  obtain ⟨i0, hi, hz0, hz1, hz2⟩ := info_parts Try.infoI
  have hl := h.rows (sz := 11) (f := cI) (fun q => rfl) (by decide)
  subst hl
  have hcap := h.cap
  unfold maxLen at hcap
  obtain ⟨hca, hcb⟩ := hcap
  go_enter Try.func35, Try.ntmps35
  go_wp2
  go_loopw [3, 4] (fun va iv wr => ∃ (i : Nat) (O : List It), i ≤ l.length ∧ iv = .int .i64 i ∧ O.length = i ∧ wr.ownsRow w.heap.size 51 11 va O.length (O.flatMap cI) ∧ Srt befI O ∧ StEq befI (l.take i) O ∧ Below w.heap.size w wr) (fun _ iv _ => l.length - (intOf iv).toNat)
  case atStart => exact ⟨0, [], Nat.zero_le _, rfl, rfl, World.ownsRow_lit w #[] 0 (Nat.le_refl _) (by unfold maxLen; omega) rfl, List.Pairwise.nil, StEq.refl _, bel_alloc (Below.refl _ _) _⟩
  case round =>
    obtain ⟨i, O, hil, rfl, hOl, hown, hsrt, hst, hbel⟩ := hrel
    obtain ⟨A2, c2, rfl⟩ := own_form hown
    by_cases hlt : i < l.length
    · have hlti : (i : Int) < l.length := by omega
      have hi0 : (0 : Int) ≤ (i : Int) := by omega
      have hlx : l[i].k.p.length ≤ 9223372036854775807 := hlim _ (List.getElem_mem hlt)
      have hlO : Hid (Lim O) := by
        have : Lim (l.take i) := fun x hx => hlim x (List.mem_of_mem_take hx)
        exact this.steq hst
      have hcap2 := (Rd.of_own hown).cap
      unfold maxLen at hcap2
      obtain ⟨hc1, hc2⟩ := hcap2
      have hOn : O.length ≤ 100000 := by omega
      replace hOl := Lib.hid hOl
      go_wp2
      go_loopw [5] (fun kv wr => ∃ k : Nat, k ≤ O.length ∧ kv = .int .i64 k ∧ Hid (∀ y ∈ O.drop k, befI l[i] y = true) ∧ wr.ownsRow w.heap.size 51 11 (.slice A2 O.length c2) O.length (O.flatMap cI) ∧ Below w.heap.size w wr) (fun kv _ => (intOf kv).toNat)
      case atStart => exact ⟨O.length, Nat.le_refl _, rfl, by intro y hy; simp at hy, hown, hbel⟩
      case round =>
        obtain ⟨k, hk, rfl, hall, hown, hbel⟩ := hrel
        obtain ⟨b, off, rfl, hb, hx⟩ := (h.below hbel).items hlt
        have hxi := (hx i hlt).1
        clear hx
        rcases Nat.eq_zero_or_pos k with e0 | e0
        · have e1 : ¬ 0 < k := by omega
          replace e0 := Lib.hid e0
          go_wp2
          go_quiet (fail)
          have hbel1 := below_drews hbel nq
          have hown1 := own_below hown (below_drews (Below.refl _ _) nq)
          have hxi1 := itAt_dN hxi nq
          clear hbel hown hxi
          generalize wr.drewN nq = W at *
          have hsz := hbel1.size
          have hRu := (Rd.of_own hown1).upto hk
          have hRd := (Rd.of_own hown1).cut hk
          rw [cI_take] at hRu
          rw [cI_drop] at hRd
          have hS := secS_of hxi1 hRu hRd
          clear hxi1 hRu hRd
          have ho1 : (W.alloc (Obj.cells #[] 51)).ownsRow W.heap.size 51 11 (.slice (some ⟨W.heap.size, 0, none⟩) 0 0) 0 [] := World.ownsRow_lit W #[] 0 (Nat.le_refl _) (by unfold maxLen; omega) rfl
          have ho2 : ((W.alloc (Obj.cells (cI l[i]).toArray 51)).alloc (Obj.cells #[] 51)).ownsRow W.heap.size 51 11 (.slice (some ⟨W.heap.size + 1, 0, none⟩) 0 0) 0 [] := own_lit2 W _
          have k1 : (0 : Int) ≤ k := by omega
          have k2 : (k : Int) ≤ O.length := by omega
          have k3 : k ≤ c2 := by omega
          have hB0 : Below W.heap.size W W := Below.refl _ _
          go_wp2
          go_region_held3 (fun w' => itAt w' b (off + i * 11) = some l[i] ∧ Rd w' 11 (.slice A2 k c2) k ((O.take k).flatMap cI) ∧ Rd w' 11 (.slice (cutA 11 A2 c2 k) (O.length - k) (c2 - k)) (O.length - k) ((O.drop k).flatMap cI)) (first | exact secS_later hS hB0.drew | exact secS_later hS (bel_alloc hB0 _).drew | exact secS_later hS (bel_alloc (bel_alloc hB0 _) _).drew | exact secS_later hS hb5 | exact secS_later hS hb5.drew | exact secS_later hS (bel_alloc hb5 _) | exact secS_later hS (bel_alloc hb5 _).drew | exact secS_later hS hb6 | exact secS_later hS hb7) (first | (refine step_more rfl _ _ 22 (by rfl) W.heap.size 51 i0 (vI (noneI k0)) 11 96 Try.underlying22 hi hz0 hz1 hz2 rfl (by decide) (.slice (some ⟨W.heap.size, 0, none⟩) 0 0) 0 [] (by rfl) (by first | exact ho1.drew | exact (ho1.alloc _).drew) _ k _ _ (by rfl) (by first | exact (secS_later hS (bel_alloc hB0 _).drew).2.1 | exact (secS_later hS (bel_alloc (bel_alloc hB0 _) _).drew).2.1) (flat_one _) (by unfold maxLen; omega) (by omega) (by first | exact (bel_alloc hB0 _).size | exact (bel_alloc (bel_alloc hB0 _) _).size) (by first | exact (bel_alloc hB0 _).drew | exact (bel_alloc (bel_alloc hB0 _) _).drew) ?_; intro v5 w5 ho5 hg5 hb5 hs5; replace hg5 := Lib.hid hg5; rw [Nat.zero_add, List.nil_append] at ho5) | (refine step_more rfl _ _ 22 (by rfl) W.heap.size 51 i0 (vI (noneI k0)) 11 96 Try.underlying22 hi hz0 hz1 hz2 rfl (by decide) (.slice (some ⟨W.heap.size + 1, 0, none⟩) 0 0) 0 [] (by rfl) ho2.drew _ k _ _ (by rfl) ((secS_later hS (bel_alloc (bel_alloc hB0 _) _).drew).2.1) (flat_one _) (by unfold maxLen; omega) (by omega) (bel_alloc (bel_alloc hB0 _) _).size (bel_alloc (bel_alloc hB0 _) _).drew ?_; intro v5 w5 ho5 hg5 hb5 hs5; replace hg5 := Lib.hid hg5; rw [Nat.zero_add, List.nil_append] at ho5) | (refine step_more rfl _ _ 22 (by rfl) W.heap.size 51 i0 (vI (noneI k0)) 11 96 Try.underlying22 hi hz0 hz1 hz2 rfl (by decide) v5 k ((O.take k).flatMap cI) (by rfl) ho5 _ 1 _ (cI l[i]) (by rfl) (rd_new3 hg5.out) (cI_one _) (by unfold maxLen; omega) (by omega) hs5 hb5 ?_; intro v6 w6 ho6 hg6 hb6 hs6; clear hg6) | (refine step_push_at rfl _ _ 22 (by rfl) W.heap.size 51 i0 (vI (noneI k0)) 11 96 Try.underlying22 hi hz0 hz1 hz2 rfl (by decide) v5 k ((O.take k).flatMap cI) (by rfl) ho5 _ _ (by rfl) (by rfl) (by simp) (cI_one _) (by unfold maxLen; omega) (by omega) hs5 hb5 ?_; intro v6 w6 ho6 hg6 hm6 hb6 hs6; clear hg6 hm6) | (refine step_more rfl _ _ 22 (by rfl) W.heap.size 51 i0 (vI (noneI k0)) 11 96 Try.underlying22 hi hz0 hz1 hz2 rfl (by decide) v5 k ((O.take k).flatMap cI) (by rfl) ho5 _ 1 _ (cI l[i]) (by rfl) (rd_new2 hg5.out) (cI_one _) (by unfold maxLen; omega) (by omega) hs5 hb5 ?_; intro v6 w6 ho6 hg6 hb6 hs6; clear hg6) | (refine step_more rfl _ _ 22 (by rfl) W.heap.size 51 i0 (vI (noneI k0)) 11 96 Try.underlying22 hi hz0 hz1 hz2 rfl (by decide) v6 (k + 1) _ (by rfl) ho6 _ (O.length - k) _ ((O.drop k).flatMap cI) (by rfl) (secS_later hS hb6).2.2 (flat_one _) (by unfold maxLen; omega) (by omega) hs6 hb6 ?_; intro v7 w7 ho7 hg7 hb7 hs7; clear hg7))
          all_goals
            have hM := Lib.hid (srt_snoc hk hsrt hall.out (.inl e0.out))
            have hE := Lib.hid (own_fin hk ho7 hsz)
            have hB7 := bel_call hbel1 hb7
            have hL : Hid ((O.take k ++ [l[i]] ++ O.drop k).length = i + 1) := by show _ = _; have := hOl.out; simp; omega
            have hst2 : Hid (StEq befI (l.take (i + 1)) (O.take k ++ [l[i]] ++ O.drop k)) := by
              show StEq _ _ _
              rw [List.take_succ_eq_append_getElem hlt]
              exact (hst.app (StEq.refl [l[i]])).trans hM.out.2
            generalize O.take k ++ [l[i]] ++ O.drop k = M at *
            clear ho7 hb7 hs7 hS ho1 ho2 hB0 hbel1 hown1 ho6 hb6 hs6 ho5 hb5 hs5 k1 k2 k3
            go_wp2
            go_roundw
            case rel => exact ⟨i + 1, M, by omega, by go_num, hL.out, hE.out, hM.out.1, hst2.out, hB7⟩
            case measure => simp [intOf]; omega
        · obtain ⟨q, rfl⟩ : ∃ q, k = q + 1 := ⟨k - 1, by omega⟩
          have hq : q < O.length := by omega
          obtain ⟨b2, off2, rfl, hb2, hx2⟩ := (Rd.of_own hown).items (k := q) hq
          have hx2 := (hx2 q hq).1
          have hly : O[q].k.p.length ≤ 9223372036854775807 := hlO.out _ (List.getElem_mem hq)
          have b0 : (0 : Int) ≤ (q : Int) := by omega
          have b1 : (q : Int) < O.length := by omega
          have b5 : IntKind.i64.wrap ((q : Int) + 1 - 1) = q := by rw [IntWalk.i64_in _ (by omega)]; omega
          have b6 : IntKind.i64.wrap (q : Int) = q := IntWalk.i64_in _ (by omega)
          have b7 : (0 : Int) < (q : Int) + 1 := by omega
          cases hqq : befI l[i] O[q] with
          | true =>
            have hqh := Lib.hid hqq
            go_wp2
            go_region_held3 (fun w' => itAt w' b (off + i * 11) = some l[i] ∧ itAt w' b2 (off2 + q * 11) = some O[q]) (first | exact ⟨it_drew hxi, it_drew hx2⟩ | exact ⟨itAt_later (it_drew hxi) hb1, itAt_later (it_drew hx2) hb1⟩) (first | (go_at_call 38; refine (refBefore_any _ _ _ hlx hly).mono ?_; rintro e w1 ⟨rfl, hb1⟩))
            have hbel1 := bel_drew hbel hb1
            have hown1 := own_below hown.drew hb1
            clear hbel hown hxi hx2 hb1 hqq b0 b1 b7
            go_wp2
            go_roundw
            case rel => exact ⟨q, by omega, by go_num, by
              intro y hy
              rw [List.drop_eq_getElem_cons hq] at hy
              rcases List.mem_cons.1 hy with rfl | hy
              · exact hqh.out
              · exact hall.out y hy, hown1, hbel1⟩
            case measure => simp [intOf]
          | false =>
            have hqh := Lib.hid hqq
            go_wp2
            go_region_held3 (fun w' => itAt w' b (off + i * 11) = some l[i] ∧ itAt w' b2 (off2 + q * 11) = some O[q]) (first | exact ⟨it_drew hxi, it_drew hx2⟩ | exact ⟨itAt_later (it_drew hxi) hb1, itAt_later (it_drew hx2) hb1⟩) (first | (go_at_call 38; refine (refBefore_any _ _ _ hlx hly).mono ?_; rintro e W ⟨rfl, hb1⟩))
            have hbel1 := bel_drew hbel hb1
            have hown1 := own_below hown.drew hb1
            have hxi1 := itAt_later (it_drew hxi) hb1
            clear hbel hown hxi hx2 hb1 hqq b0 b1 b7 b5 b6
            generalize hA2 : (some ⟨b2, off2, none⟩ : Option Addr) = A2 at *
            clear hA2
            have hsz := hbel1.size
            have hRu := (Rd.of_own hown1).upto hk
            have hRd := (Rd.of_own hown1).cut hk
            rw [cI_take] at hRu
            rw [cI_drop] at hRd
            have hS := secS_of hxi1 hRu hRd
            clear hxi1 hRu hRd
            have ho1 : (W.alloc (Obj.cells #[] 51)).ownsRow W.heap.size 51 11 (.slice (some ⟨W.heap.size, 0, none⟩) 0 0) 0 [] := World.ownsRow_lit W #[] 0 (Nat.le_refl _) (by unfold maxLen; omega) rfl
            have ho2 : ((W.alloc (Obj.cells (cI l[i]).toArray 51)).alloc (Obj.cells #[] 51)).ownsRow W.heap.size 51 11 (.slice (some ⟨W.heap.size + 1, 0, none⟩) 0 0) 0 [] := own_lit2 W _
            have k1 : (0 : Int) ≤ (q + 1) := by omega
            have k2 : ((q + 1 : Nat) : Int) ≤ O.length := by omega
            have k3 : (q + 1) ≤ c2 := by omega
            have hB0 : Below W.heap.size W W := Below.refl _ _
            go_wp2
            go_region_held3 (fun w' => itAt w' b (off + i * 11) = some l[i] ∧ Rd w' 11 (.slice A2 (q + 1) c2) (q + 1) ((O.take (q + 1)).flatMap cI) ∧ Rd w' 11 (.slice (cutA 11 A2 c2 (q + 1)) (O.length - (q + 1)) (c2 - (q + 1))) (O.length - (q + 1)) ((O.drop (q + 1)).flatMap cI)) (first | exact secS_later hS hB0.drew | exact secS_later hS (bel_alloc hB0 _).drew | exact secS_later hS (bel_alloc (bel_alloc hB0 _) _).drew | exact secS_later hS hb5 | exact secS_later hS hb5.drew | exact secS_later hS (bel_alloc hb5 _) | exact secS_later hS (bel_alloc hb5 _).drew | exact secS_later hS hb6 | exact secS_later hS hb7) (first | (refine step_more rfl _ _ 22 (by rfl) W.heap.size 51 i0 (vI (noneI k0)) 11 96 Try.underlying22 hi hz0 hz1 hz2 rfl (by decide) (.slice (some ⟨W.heap.size, 0, none⟩) 0 0) 0 [] (by rfl) (by first | exact ho1.drew | exact (ho1.alloc _).drew) _ (q + 1) _ _ (by rfl) (by first | exact (secS_later hS (bel_alloc hB0 _).drew).2.1 | exact (secS_later hS (bel_alloc (bel_alloc hB0 _) _).drew).2.1) (flat_one _) (by unfold maxLen; omega) (by omega) (by first | exact (bel_alloc hB0 _).size | exact (bel_alloc (bel_alloc hB0 _) _).size) (by first | exact (bel_alloc hB0 _).drew | exact (bel_alloc (bel_alloc hB0 _) _).drew) ?_; intro v5 w5 ho5 hg5 hb5 hs5; replace hg5 := Lib.hid hg5; rw [Nat.zero_add, List.nil_append] at ho5) | (refine step_more rfl _ _ 22 (by rfl) W.heap.size 51 i0 (vI (noneI k0)) 11 96 Try.underlying22 hi hz0 hz1 hz2 rfl (by decide) (.slice (some ⟨W.heap.size + 1, 0, none⟩) 0 0) 0 [] (by rfl) ho2.drew _ (q + 1) _ _ (by rfl) ((secS_later hS (bel_alloc (bel_alloc hB0 _) _).drew).2.1) (flat_one _) (by unfold maxLen; omega) (by omega) (bel_alloc (bel_alloc hB0 _) _).size (bel_alloc (bel_alloc hB0 _) _).drew ?_; intro v5 w5 ho5 hg5 hb5 hs5; replace hg5 := Lib.hid hg5; rw [Nat.zero_add, List.nil_append] at ho5) | (refine step_more rfl _ _ 22 (by rfl) W.heap.size 51 i0 (vI (noneI k0)) 11 96 Try.underlying22 hi hz0 hz1 hz2 rfl (by decide) v5 (q + 1) ((O.take (q + 1)).flatMap cI) (by rfl) ho5 _ 1 _ (cI l[i]) (by rfl) (rd_new3 hg5.out) (cI_one _) (by unfold maxLen; omega) (by omega) hs5 hb5 ?_; intro v6 w6 ho6 hg6 hb6 hs6; clear hg6) | (refine step_push_at rfl _ _ 22 (by rfl) W.heap.size 51 i0 (vI (noneI k0)) 11 96 Try.underlying22 hi hz0 hz1 hz2 rfl (by decide) v5 (q + 1) ((O.take (q + 1)).flatMap cI) (by rfl) ho5 _ _ (by rfl) (by rfl) (by simp) (cI_one _) (by unfold maxLen; omega) (by omega) hs5 hb5 ?_; intro v6 w6 ho6 hg6 hm6 hb6 hs6; clear hg6 hm6) | (refine step_more rfl _ _ 22 (by rfl) W.heap.size 51 i0 (vI (noneI k0)) 11 96 Try.underlying22 hi hz0 hz1 hz2 rfl (by decide) v5 (q + 1) ((O.take (q + 1)).flatMap cI) (by rfl) ho5 _ 1 _ (cI l[i]) (by rfl) (rd_new2 hg5.out) (cI_one _) (by unfold maxLen; omega) (by omega) hs5 hb5 ?_; intro v6 w6 ho6 hg6 hb6 hs6; clear hg6) | (refine step_more rfl _ _ 22 (by rfl) W.heap.size 51 i0 (vI (noneI k0)) 11 96 Try.underlying22 hi hz0 hz1 hz2 rfl (by decide) v6 (q + 1 + 1) _ (by rfl) ho6 _ (O.length - (q + 1)) _ ((O.drop (q + 1)).flatMap cI) (by rfl) (secS_later hS hb6).2.2 (flat_one _) (by unfold maxLen; omega) (by omega) hs6 hb6 ?_; intro v7 w7 ho7 hg7 hb7 hs7; clear hg7))
            all_goals
              have hM := Lib.hid (srt_snoc hk hsrt hall.out (.inr ⟨O[q], by rw [Nat.add_sub_cancel]; exact List.getElem?_eq_getElem hq, hqh.out⟩))
              have hE := Lib.hid (own_fin hk ho7 hsz)
              have hB7 := bel_call hbel1 hb7
              have hL : Hid ((O.take (q + 1) ++ [l[i]] ++ O.drop (q + 1)).length = i + 1) := by show _ = _; have := hOl.out; simp; omega
              have hst2 : Hid (StEq befI (l.take (i + 1)) (O.take (q + 1) ++ [l[i]] ++ O.drop (q + 1))) := by
                show StEq _ _ _
                rw [List.take_succ_eq_append_getElem hlt]
                exact (hst.app (StEq.refl [l[i]])).trans hM.out.2
              generalize O.take (q + 1) ++ [l[i]] ++ O.drop (q + 1) = M at *
              clear ho7 hb7 hs7 hS ho1 ho2 hB0 hbel1 hown1 ho6 hb6 hs6 ho5 hb5 hs5 k1 k2 k3
              go_wp2
              go_roundw
              case rel => exact ⟨i + 1, M, by omega, by go_num, hL.out, hE.out, hM.out.1, hst2.out, hB7⟩
              case measure => simp [intOf]; omega
    · obtain rfl : i = l.length := by omega
      rw [List.take_length] at hst
      have hOl' := Lib.hid hOl
      rw [hOl] at hown
      clear hOl
      go_wp2
      go_ret
      refine ⟨A2, c2, O, congrArg (fun n => Ending.returned (Value.slice A2 n c2)) hOl'.out, ?_, hsrt, hst, hOl'.out, hbel⟩
      exact Rd.of_own hown
end Go.Proofs.Ytdefpphfbpkeaaa
