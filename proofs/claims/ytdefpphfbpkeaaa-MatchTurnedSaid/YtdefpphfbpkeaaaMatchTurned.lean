/-
  The law MatchTurned.
-/
import Derived.Test.YtdefpphfbpkeaaaMatchSorts
namespace Go.Proofs.Ytdefpphfbpkeaaa
open Go.RowKit
set_option linter.unusedVariables false

def rotL (l : List It) (k : Nat) : List It := l.drop k ++ l.take k
theorem u8_range {n : Int} (h : (Lit.int .u8 n).wf = true) : 0 ≤ n ∧ n ≤ 255 := by
  simp [Lit.wf, IntKind.min, IntKind.max, IntKind.signed, IntKind.bits] at h
  omega
theorem rot_len {l : List It} {k : Nat} (h : k ≤ l.length) : (rotL l k).length = l.length := by unfold rotL; simp; omega
theorem rot_at {l : List It} {k s : Nat} (hk : k < l.length) (hs : s < l.length) : (rotL l k)[s]? = l[(s + k) % l.length]? := by
  unfold rotL
  by_cases h : s < l.length - k
  · rw [List.getElem?_append_left (by rw [List.length_drop]; exact h), List.getElem?_drop, Nat.mod_eq_of_lt (by omega), Nat.add_comm]
  · rw [List.getElem?_append_right (by rw [List.length_drop]; omega), List.length_drop, List.getElem?_take_of_lt (by omega)]
    have e : (s + k) % l.length = s - (l.length - k) := by
      rw [Nat.mod_eq_sub_mod (by omega), Nat.mod_eq_of_lt (by omega)]; omega
    rw [e]
theorem rot_perm (l : List It) (k : Nat) : (rotL l k).reverse.Perm l :=
  (List.reverse_perm _).trans (List.perm_append_comm.trans (by rw [List.take_append_drop]))
/-- No two of one key. -/
def Uk (l : List It) : Prop := l.Pairwise fun x y => y.k ≠ x.k
theorem uk_one {l : List It} {z : It} (h : Uk l) (hz : ∀ x ∈ l, x.k = z.k) : l.length ≤ 1 := by
  match l, h, hz with
  | [], _, _ => simp
  | [x], _, _ => simp
  | x :: y :: r, h, hz =>
    exfalso
    have h1 := (List.pairwise_cons.1 h).1 y (by simp)
    exact h1 ((hz y (by simp)).trans (hz x (by simp)).symm)
theorem perm_short {α : Type} {l m : List α} (h : l.Perm m) (hl : l.length ≤ 1) : l = m := by
  match l, hl, h with
  | [], _, h => exact (List.Perm.nil_eq h)
  | [x], _, h => exact (List.singleton_perm.1 h).symm ▸ rfl
theorem uk_steq {l m : List It} (h : Uk l) (hp : m.Perm l) : StEq befI l m := fun z => by
  refine perm_short (hp.symm.filter _) ?_
  refine uk_one (z := z) (List.Pairwise.filter _ h) ?_
  intro x hx
  have := (List.mem_filter.1 hx).2
  obtain ⟨e1, e2⟩ := eqv_iff.1 this
  exact (befI_key e1 e2).symm
theorem pick_eq {l m : List It} {r : Rq} {t : Int} {R1 R2 : List It} (h : Uk l) (hp : m.Perm l) (s1 : Srt befI R1) (e1 : StEq befI (pickL l r t) R1) (s2 : Srt befI R2) (e2 : StEq befI (pickL m r t) R2) : R1 = R2 :=
  srt_uniq befI_swo s1 s2 (e1.symm.trans ((uk_steq (List.Pairwise.filter _ h) (hp.filter _)).trans e2))
theorem uk_of {l : List It} (h : ∀ a b (ha : a < l.length) (hb : b < a), (l[a]).k ≠ (l[b]'(by omega)).k) : Uk l := by
  unfold Uk
  rw [List.pairwise_iff_getElem]
  intro i j hi hj hij
  exact h j i hj hij
theorem sameI_same (A1 A2 : Option Addr) (n1 c1 n2 c2 : Nat) (l : List It) (w : World) (h1 : Rd w 11 (.slice A1 n1 c1) n1 (l.flatMap cI)) (h2 : Rd w 11 (.slice A2 n2 c2) n2 (l.flatMap cI)) :
    Calls Try.prog 28 #[.slice A1 n1 c1, .slice A2 n2 c2] w fun e w' => e = .returned (.bool true) ∧ Below w.heap.size w w' :=
  (sameI_any A1 A2 n1 c1 n2 c2 l l w h1 h2).mono fun e w' h => ⟨by rw [h.1, decide_eq_true rfl], h.2⟩
theorem sml_perm {l m : List It} (h : Sml l) (hp : m.Perm l) : Sml m := fun x hx => h x (hp.mem_iff.1 hx)

set_option maxRecDepth 20000 in
set_option maxHeartbeats 4000000 in
theorem matchTurned (x0 : SlArg It) (r : Rq) (at_ : Int) (w : World) (h0 : Rd w 11 (.slice x0.A x0.n x0.c) x0.n (x0.l.flatMap cI) ∧ ∀ q ∈ x0.l, okI q) (hr : r.h.length ≤ maxLen ∧ r.p.length ≤ maxLen) (hat : (Lit.int .u8 at_).wf = true) :
    Calls Try.prog 9 #[.slice x0.A x0.n x0.c, rqV r, .int .u8 at_] w fun e w' => e = .returned (.bool true) ∧ Below w.heap.size w w' := by
  obtain ⟨A1, n1, c1, l⟩ := x0
  obtain ⟨hR1, _⟩ := h0
  obtain ⟨hrh, hrp0⟩ := hr
  obtain ⟨ha1, ha2⟩ := u8_range hat
  obtain ⟨ta, rfl⟩ : ∃ a : Nat, at_ = a := ⟨at_.toNat, (Int.toNat_of_nonneg ha1).symm⟩
  simp only at hR1 ⊢
  have hl := hR1.rows (sz := 11) (f := cI) (fun q => rfl) (by decide)
  subst hl
  have hcap := hR1.cap
  unfold maxLen at hcap hrh hrp0
  obtain ⟨hca, hcb⟩ := hcap
  have hB0 := bel_alloc (Below.refl w.heap.size w) (.cells (rqC r) 61)
  have hk0 := rqAt_new w r 61 w.heap.size rfl
  have hR2 := hR1.below hB0
  clear hR1
  cases hla : lightL 60 l with
  | false =>
    go_enter Try.func9, Try.ntmps9
    go_wp2_with fail
    refine (light15_any _ _ _ l _ hR2).mono ?_
    rintro e w1 ⟨rfl, hb1⟩
    have hB1 := bel_call hB0 hb1
    rw [hla]
    clear hB0 hb1 hk0
    go_wp2_with (go_at_call 33; refine (awake15 _).mono ?_; rintro e w99 ⟨rfl, hb99⟩)
    go_ret
    exact ⟨rfl, bel_call hB1 hb99⟩
  | true =>
    obtain ⟨hn, hlim, hsml⟩ := lightL60 hla
    have j1 : decide ((300 : Int) < r.h.length) = decide (300 < r.h.length) := decide_eq_decide.2 (by omega)
    have j2 : decide ((300 : Int) < r.p.length) = decide (300 < r.p.length) := decide_eq_decide.2 (by omega)
    by_cases g1 : 300 < r.h.length
    · rw [decide_eq_true g1] at j1
      clear j2
      go_enter Try.func9, Try.ntmps9
      go_wp2_with fail
      refine (light15_any _ _ _ l _ hR2).mono ?_
      rintro e w1 ⟨rfl, hb1⟩
      have hB1 := bel_call hB0 hb1
      have hk1 := rqAt_later hk0 hb1
      have hR3 := hR2.below hb1
      rw [hla]
      clear hB0 hb1 hk0 hR2 hla
      have hrr := rdAt_range (f := lRq) hk1
      have c0 := hrr 0 _ rfl
      have c1' := hrr 1 _ rfl
      rw [Nat.zero_add] at c0 c1'
      clear hrr
      go_wp2_with (go_at_call 33; refine (awake15 _).mono ?_; rintro e w99 ⟨rfl, hb99⟩)
      go_ret
      exact ⟨rfl, bel_call hB1 hb99⟩
    rw [decide_eq_false g1] at j1
    by_cases g2 : 300 < r.p.length
    · rw [decide_eq_true g2] at j2
      go_enter Try.func9, Try.ntmps9
      go_wp2_with fail
      refine (light15_any _ _ _ l _ hR2).mono ?_
      rintro e w1 ⟨rfl, hb1⟩
      have hB1 := bel_call hB0 hb1
      have hk1 := rqAt_later hk0 hb1
      have hR3 := hR2.below hb1
      rw [hla]
      clear hB0 hb1 hk0 hR2 hla
      have hrr := rdAt_range (f := lRq) hk1
      have c0 := hrr 0 _ rfl
      have c1' := hrr 1 _ rfl
      rw [Nat.zero_add] at c0 c1'
      clear hrr
      go_wp2_with (go_at_call 33; refine (awake15 _).mono ?_; rintro e w99 ⟨rfl, hb99⟩)
      go_ret
      exact ⟨rfl, bel_call hB1 hb99⟩
    rw [decide_eq_false g2] at j2
    by_cases g3 : l.length = 0
    · have j3 : ((l.length : Int) == 0) = true := by rw [g3]; rfl
      clear g3
      go_enter Try.func9, Try.ntmps9
      go_wp2_with fail
      refine (light15_any _ _ _ l _ hR2).mono ?_
      rintro e w1 ⟨rfl, hb1⟩
      have hB1 := bel_call hB0 hb1
      have hk1 := rqAt_later hk0 hb1
      have hR3 := hR2.below hb1
      rw [hla]
      clear hB0 hb1 hk0 hR2 hla
      have hrr := rdAt_range (f := lRq) hk1
      have c0 := hrr 0 _ rfl
      have c1' := hrr 1 _ rfl
      rw [Nat.zero_add] at c0 c1'
      clear hrr
      go_wp2_with (go_at_call 33; refine (awake15 _).mono ?_; rintro e w99 ⟨rfl, hb99⟩)
      go_ret
      exact ⟨rfl, bel_call hB1 hb99⟩
    · have j3 : ((l.length : Int) == 0) = false := by rw [beq_eq_false_iff_ne]; omega
      go_enter Try.func9, Try.ntmps9
      go_wp2_with fail
      refine (light15_any _ _ _ l _ hR2).mono ?_
      rintro e w1 ⟨rfl, hb1⟩
      have hB1 := bel_call hB0 hb1
      have hk1 := rqAt_later hk0 hb1
      have hR3 := hR2.below hb1
      rw [hla]
      clear hB0 hb1 hk0 hR2 hla
      have hrr := rdAt_range (f := lRq) hk1
      have c0 := hrr 0 _ rfl
      have c1' := hrr 1 _ rfl
      rw [Nat.zero_add] at c0 c1'
      clear hrr
      have hl0 : 0 < l.length := by omega
      obtain ⟨i0, hi, hz0, hz1, hz2⟩ := info_parts Try.infoI
      go_wp2
      clear c0 c1' j1 j2 j3
      go_loopw [7] (fun iv wr => ∃ i : Nat, i ≤ l.length ∧ iv = .int .i64 i ∧ Hid (∀ a b (ha : a < l.length) (hb : b < a), a < i → (l[a]).k ≠ (l[b]'(by omega)).k) ∧ Below w1.heap.size w1 wr) (fun iv _ => l.length - (intOf iv).toNat)
      case atStart => exact ⟨0, Nat.zero_le _, rfl, fun a b ha hb h => absurd h (by omega), Below.refl _ _⟩
      case round =>
        obtain ⟨i, hi', rfl, hall, hbel⟩ := hrel
        by_cases hlt : i < l.length
        · have hlti : (i : Int) < l.length := by omega
          have hi0 : (0 : Int) ≤ (i : Int) := by omega
          go_wp2
          go_loopw [8] (fun kv wr => ∃ k : Nat, k ≤ i ∧ kv = .int .i64 k ∧ Hid (∀ b (hb : b < k) (hb' : b < l.length), (l[i]).k ≠ (l[b]).k) ∧ Below w1.heap.size w1 wr) (fun kv _ => i - (intOf kv).toNat)
          case atStart => exact ⟨0, Nat.zero_le _, rfl, fun b hb => absurd hb (by omega), hbel⟩
          case round =>
            obtain ⟨k, hk, rfl, hno, hbel⟩ := hrel
            by_cases hki : k < i
            · have hkl : k < l.length := by omega
              have hkl' : (k : Int) < l.length := by omega
              have hk0' : (0 : Int) ≤ (k : Int) := by omega
              obtain ⟨b, off, rfl, hb, hx⟩ := (hR3.below hbel).items hlt
              have hx1 := (hx i hlt).2
              have hx2 := (hx k hkl).2
              clear hx
              by_cases he : (l[i]).k = (l[k]).k
              · have heb : decide ((l[i]).k = (l[k]).k) = true := decide_eq_true he
                clear he
                go_wp2
                go_quiet (fail)
                have hbel' := bel_call hB1 (below_drews hbel nq)
                clear hx1 hx2 hb hbel
                generalize wr.drewN nq = wq at *
                go_wp2_with (go_at_call 33; refine (awake15 _).mono ?_; rintro e w99 ⟨rfl, hb99⟩)
                go_ret
                exact ⟨rfl, bel_call hbel' hb99⟩
              · have heb : decide ((l[i]).k = (l[k]).k) = false := decide_eq_false he
                have heh := Lib.hid he
                clear he
                go_wp2
                go_quiet (fail)
                have hbel' := below_drews hbel nq
                clear hx1 hx2 hb hbel
                generalize wr.drewN nq = wq at *
                go_wp2
                go_roundw
                case rel => exact ⟨k + 1, by omega, by go_num, fun b hb hb' => by
                  by_cases e : b = k
                  · subst e; exact heh.out
                  · exact hno.out b (by omega) hb', hbel'⟩
                case measure => simp [intOf]; omega
            · obtain rfl : k = i := by omega
              go_wp2
              go_roundw
              case rel => exact ⟨k + 1, by omega, by go_num, fun a b ha hb h => by
                by_cases e : a = k
                · subst e; exact hno.out b hb (by omega)
                · exact hall.out a b ha hb (by omega), hbel⟩
              case measure => simp [intOf]; omega
        · obtain rfl : i = l.length := by omega
          have huk := Lib.hid (uk_of fun a b ha hb => hall.out a b ha hb ha)
          clear hall
          have hR4 := hR3.below hbel
          have hk4 := rqAt_later hk1 hbel
          have hB4 := bel_call hB1 hbel
          obtain ⟨k0, hk0⟩ : ∃ k0 : Nat, k0 = ta % l.length := ⟨_, rfl⟩
          have hk0l : k0 < l.length := by rw [hk0]; exact Nat.mod_lt _ hl0
          have em : (ta : Int) % (l.length : Int) = k0 := by rw [hk0]; exact (Int.natCast_emod _ _).symm
          have emt : (ta : Int).tmod (l.length : Int) = k0 := by rw [Int.tmod_eq_emod_of_nonneg ha1]; exact em
          replace hk0 := Lib.hid hk0
          clear hbel hB1 hk1 hR3
          generalize wr = w4 at *
          have hrl := Lib.hid (rot_len (l := l) (k := k0) (by omega))
          have hrp := Lib.hid (rot_perm l k0)
          go_wp2
          clear em emt
          go_loopw [10, 11] (fun va iv wr => ∃ t : Nat, t ≤ l.length ∧ iv = .int .i64 ((t : Int) - 1) ∧ wr.ownsRow w4.heap.size 51 11 va (l.length - t) ((((rotL l k0).drop t).reverse).flatMap cI) ∧ Below w4.heap.size w4 wr) (fun _ iv _ => (intOf iv + 1).toNat)
          case atStart =>
            refine ⟨l.length, Nat.le_refl _, rfl, ?_, bel_alloc (Below.refl _ _) _⟩
            rw [Nat.sub_self, List.drop_eq_nil_of_le (Nat.le_of_eq hrl.out)]
            exact World.ownsRow_lit w4 #[] 0 (Nat.le_refl _) (by unfold maxLen; omega) rfl
          case round =>
            obtain ⟨t, ht, rfl, hown, hbel⟩ := hrel
            have hR5 := hR4.below hbel
            rcases Nat.eq_zero_or_pos t with rfl | htp
            · rw [Nat.sub_zero, List.drop_zero] at hown
              have hk5 := rqAt_later hk4 hbel
              have hB5 := bel_call hB4 hbel
              obtain ⟨A5, c5, rfl⟩ := own_form hown
              have hM := Rd.of_own hown
              have hsm : Hid (Sml (rotL l k0).reverse) := sml_perm hsml hrp.out
              clear hown hbel hR4 hk4 hB4
              generalize (rotL l k0).reverse = M at *
              generalize wr = w5 at *
              have hB6 := hB5.drew
              go_wp2
              go_region_held3 (fun w' => rqAt w' w.heap.size 0 = some r) (first | with_reducible exact rqAt_later hk5 (Below.refl _ _).drew | with_reducible exact rqAt_later hk5 (below_drew_call hb1) | with_reducible exact rqAt_later hk5 (bel_call (below_drew_call hb1) hb2) | with_reducible exact rqAt_later hk5 (bel_call (bel_call (below_drew_call hb1) hb2) hb3) | with_reducible exact rqAt_later hk5 (bel_call (bel_call (bel_call (below_drew_call hb1) hb2) hb3) hb4)) (first
                | (go_at_call 36; (with_reducible refine (pick_any _ _ _ l r 0 _ (hR5.below (Below.refl _ _).drew) (by omega) hsml (by omega) (by omega)).mono ?_); rintro e w1 ⟨A7, c7, R7, rfl, f1, f2, f3, f4, hb1⟩; replace f4 := Lib.hid f4; replace f2 := Lib.hid f2; replace f3 := Lib.hid f3)
                | (go_at_call 36; (with_reducible refine (pick_any _ _ _ M r 0 _ (hM.below (below_drew_call hb1)) (by omega) hsm.out (by omega) (by omega)).mono ?_); rintro e w2 ⟨A8, c8, R8, rfl, e1, e2, e3, e4, hb2⟩; replace e4 := Lib.hid e4; replace e2 := Lib.hid e2; replace e3 := Lib.hid e3; obtain rfl : R7 = R8 := pick_eq huk.out hrp.out f2.out f3.out e2.out e3.out)
                | (go_at_call 28; (with_reducible refine (sameI_same _ _ _ _ _ _ R7 _ (f1.below hb2) e1).mono ?_); rintro e w3 ⟨rfl, hb3⟩)
                | (go_at_call 33; refine (awake15 _).mono ?_; rintro e w4 ⟨rfl, hb4⟩))
              have hB7 := bel_call (bel_call (bel_call (bel_call hB6 hb1) hb2) hb3) hb4
              clear hb1 hb2 hb3 hb4 f1 f2 f3 f4 e1 e2 e3 e4 hM hR5 hk5
              go_wp2
              go_ret
              exact ⟨rfl, hB7⟩
            · obtain ⟨s, rfl⟩ : ∃ s, t = s + 1 := ⟨t - 1, by omega⟩
              rw [show (((s + 1 : Nat) : Int) - 1) = (s : Int) by omega]
              have hs : s < l.length := by omega
              have hsi : (0 : Int) ≤ s := by omega
              obtain ⟨q, hq⟩ : ∃ q : Nat, q = (s + k0) % l.length := ⟨_, rfl⟩
              have hql : q < l.length := by rw [hq]; exact Nat.mod_lt _ hl0
              have hqi : (q : Int) < l.length := by omega
              have hq0 : (0 : Int) ≤ q := by omega
              have em : ((s : Int) + k0) % (l.length : Int) = q := by rw [hq, Int.natCast_emod, Int.natCast_add]
              have emt : ((s : Int) + k0).tmod (l.length : Int) = q := by rw [Int.tmod_eq_emod_of_nonneg (by omega)]; exact em
              have hrs := rot_at hk0l hs
              rw [← hq, List.getElem?_eq_getElem hql] at hrs
              have hcons : Hid (((rotL l k0).drop s).reverse.flatMap cI = ((rotL l k0).drop (s + 1)).reverse.flatMap cI ++ cI l[q]) := by
                show _ = _
                have h1 : (rotL l k0).drop s = l[q] :: (rotL l k0).drop (s + 1) := by
                  obtain ⟨hh, hv⟩ := List.getElem?_eq_some_iff.1 hrs
                  rw [List.drop_eq_getElem_cons hh, hv]
                rw [h1, List.reverse_cons, List.flatMap_append, List.flatMap_singleton]
              have hnum : Hid (l.length - s = l.length - (s + 1) + 1) := by show _ = _; omega
              obtain ⟨b, off, rfl, hb, hx⟩ := hR5.items hql
              have hxi := (hx q hql).1
              clear hx hrs hb
              replace hq := Lib.hid hq
              go_wp2_with (at_builtin; refine wpList_push_at rfl _ _ 22 rfl w4.heap.size 51 i0 (vI (noneI _root_.Go.Proofs.Ytdefpphfbpkeaaa.k0)) 11 96 Try.underlying22 hi hz0 hz1 hz2 rfl (by decide) _ _ _ rfl hown _ _ rfl rfl (by simp) (cI_one _) ?c1 ?c2 hbel.size hbel ?_)
              case c1 => unfold maxLen; omega
              case c2 => omega
              intro v' w5 ho5 hg5 hm5 hb5 hs5
              clear hown hbel hg5 hm5 hxi hR5 em emt
              go_wp2
              go_roundw
              case rel => exact ⟨s, by omega, by go_num, by rw [hcons.out, hnum.out]; exact ho5, hb5⟩
              case measure => simp [intOf]
end Go.Proofs.Ytdefpphfbpkeaaa
