/-
  The walks: are items few and short; items' text; does the program answer?
-/
import Derived.Test.YtdefpphfbpkeaaaPick
import Derived.Test.YtdefpphfbpkeaaaLight
import Derived.Test.YtdefpphfbpkeaaaShelf
namespace Go.Proofs.Ytdefpphfbpkeaaa
open Go.RowKit
set_option linter.unusedVariables false

set_option maxHeartbeats 2000000 in
theorem light15_any (A : Option Addr) (n c : Nat) (l : List It) (w : World) (h : Rd w 11 (.slice A n c) n (l.flatMap cI)) :
    Calls Try.prog 32 #[.slice A n c] w fun e w' => e = .returned (.bool (lightL 60 l)) ∧ Below w.heap.size w w' := by
  have hl := h.rows (sz := 11) (f := cI) (fun q => rfl) (by decide)
  have hcap := h.cap
  unfold maxLen at hcap
  obtain ⟨hca, hcb⟩ := hcap
  subst hl
  by_cases hbig : 60 < l.length
  · have hbi : (60 : Int) < l.length := by omega
    go_enter Try.func32, Try.ntmps32
    go_wp2
    go_ret
    exact ⟨ret_bool (by unfold lightL; rw [decide_eq_false (by omega)]; rfl), Below.refl _ _⟩
  have hbi : (l.length : Int) ≤ 60 := by omega
  have hfin := Lib.hid (show lightL 60 l = l.all lightX by unfold lightL; rw [decide_eq_true (by omega)]; rfl)
  go_enter Try.func32, Try.ntmps32
  go_wp2
  go_loopw [3] (fun i wr => ∃ k : Nat, k ≤ l.length ∧ i = .int .i64 k ∧ Hid ((l.take k).all lightX = true) ∧ Below w.heap.size w wr) (fun i _ => l.length - (intOf i).toNat)
  case atStart => exact ⟨0, Nat.zero_le _, rfl, rfl, Below.refl _ _⟩
  case round =>
    obtain ⟨k, hk, rfl, hall, hbel⟩ := hrel
    by_cases hlt : k < l.length
    · have hki : (k : Int) < l.length := by omega
      obtain ⟨b, off, rfl, hb, hx⟩ := (h.below hbel).items hlt
      obtain ⟨q0, q1, q2, q3⟩ := it_cells (hx k hlt).1
      clear hx
      have hstep := Lib.hid (allx_step (p := lightX) hlt)
      have hbad := Lib.hid (allx_bad (p := lightX) hlt)
      by_cases g0 : l[k].k.n.length ≤ 300
      · have j0 : decide ((300 : Int) < l[k].k.n.length) = false := decide_eq_false (by omega)
        by_cases g1 : l[k].k.d.length ≤ 300
        · have j1 : decide ((300 : Int) < l[k].k.d.length) = false := decide_eq_false (by omega)
          by_cases g2 : l[k].k.p.length ≤ 300
          · have j2 : decide ((300 : Int) < l[k].k.p.length) = false := decide_eq_false (by omega)
            by_cases g3 : l[k].c.v.length ≤ 300
            · have j3 : decide ((300 : Int) < l[k].c.v.length) = false := decide_eq_false (by omega)
              have hp := Lib.hid (show lightX l[k] = true by unfold lightX; rw [decide_eq_true g0, decide_eq_true g1, decide_eq_true g2, decide_eq_true g3]; rfl)
              clear g0 g1 g2 g3
              go_wp2
              go_roundw
              case rel => exact ⟨k + 1, by omega, by go_num, by show _ = _; rw [hstep.out, hall.out, hp.out]; rfl, hbel⟩
              case measure => simp [intOf]; omega
            · have j3 : decide ((300 : Int) < l[k].c.v.length) = true := decide_eq_true (by omega)
              have hp := Lib.hid (show lightX l[k] = false by unfold lightX; rw [decide_eq_false g3]; simp)
              clear g0 g1 g2 g3
              go_wp2
              go_ret
              exact ⟨ret_bool (by rw [hfin.out, hbad.out hp.out]), hbel⟩
          · have j2 : decide ((300 : Int) < l[k].k.p.length) = true := decide_eq_true (by omega)
            have hp := Lib.hid (show lightX l[k] = false by unfold lightX; rw [decide_eq_false g2]; simp)
            clear g0 g1 g2
            go_wp2
            go_ret
            exact ⟨ret_bool (by rw [hfin.out, hbad.out hp.out]), hbel⟩
        · have j1 : decide ((300 : Int) < l[k].k.d.length) = true := decide_eq_true (by omega)
          have hp := Lib.hid (show lightX l[k] = false by unfold lightX; rw [decide_eq_false g1]; simp)
          clear g0 g1
          go_wp2
          go_ret
          exact ⟨ret_bool (by rw [hfin.out, hbad.out hp.out]), hbel⟩
      · have j0 : decide ((300 : Int) < l[k].k.n.length) = true := decide_eq_true (by omega)
        have hp := Lib.hid (show lightX l[k] = false by unfold lightX; rw [decide_eq_false g0]; simp)
        clear g0
        go_wp2
        go_ret
        exact ⟨ret_bool (by rw [hfin.out, hbad.out hp.out]), hbel⟩
    · obtain rfl : k = l.length := by omega
      have hf := Lib.hid (show l.all lightX = true by have := hall.out; rwa [List.take_length] at this)
      go_wp2
      go_ret
      exact ⟨ret_bool (by rw [hfin.out, hf.out]), hbel⟩

theorem Try.infoStr : (Try.prog.info? 9).map (fun i => (i.zero, i.size, i.bytes)) = some (some (.string ByteArray.empty), 1, 16) := by kernel_rfl
def pairT (x : It) : List UInt8 := x.k.n ++ [61] ++ x.c.v
def mtextL (l : List It) : List UInt8 := Lib.join (l.map pairT) [59, 32]
theorem S_app (a b : List UInt8) : S a ++ S b = S (a ++ b) := by
  apply ByteArray.ext
  show (ByteArray.append _ _).data = _
  simp [S]
set_option maxRecDepth 20000 in
set_option maxHeartbeats 2000000 in
theorem mtext_any (A : Option Addr) (n c : Nat) (l : List It) (w : World) (h : Rd w 11 (.slice A n c) n (l.flatMap cI)) (hn : n ≤ 1000) (h0 : 0 < n) (hs : ∀ x ∈ l, x.k.n.length ≤ 10000 ∧ x.c.v.length ≤ 10000) (ht : (mtextL l).length ≤ 140737488355328) :
    Calls Try.prog 53 #[.slice A n c] w fun e w' => e = .returned (.string (S (mtextL l))) ∧ Below w.heap.size w w' := by
  obtain ⟨i0, hi, hz0, hz1, hz2⟩ := info_parts Try.infoStr
  have hl := h.rows (sz := 11) (f := cI) (fun q => rfl) (by decide)
  have hcap := h.cap
  unfold maxLen at hcap
  obtain ⟨hca, hcb⟩ := hcap
  subst hl
  go_enter Try.func53, Try.ntmps53
  go_wp2
  go_loopw [3, 8] (fun va i wr => ∃ j : Nat, j ≤ l.length ∧ i = .int .i64 j ∧ wr.ownsRow w.heap.size 9 1 va j ((l.take j).map fun x => strV (pairT x)) ∧ Below w.heap.size w wr) (fun _ i _ => l.length - (intOf i).toNat)
  case atStart => exact ⟨0, Nat.zero_le _, rfl, World.ownsRow_nil _ _ _ _, Below.refl _ _⟩
  case round =>
    obtain ⟨j, hj, rfl, hoa, hbel⟩ := hrel
    by_cases hlt : j < l.length
    · have hji : (j : Int) < l.length := by omega
      have hj0 : (0 : Int) ≤ (j : Int) := by omega
      obtain ⟨b, off, rfl, hb, hx⟩ := (h.below hbel).items hlt
      have hxi := (hx j hlt).1
      obtain ⟨hs1, hs2⟩ := hs _ (List.getElem_mem hlt)
      clear hx hb
      have hsn : Hid ((l.take (j + 1)).map (fun x => strV (pairT x)) = (l.take j).map (fun x => strV (pairT x)) ++ [strV (pairT l[j])]) := by
        show _ = _
        rw [List.take_succ_eq_append_getElem hlt, List.map_append]; rfl
      have hoa1 := hoa.alloc (.cells (cI l[j]).toArray 51)
      have hbel1 := bel_alloc hbel (.cells (cI l[j]).toArray 51)
      have hsz1 := hbel1.size
      have hi1 := itAt_new wr l[j] 51 wr.heap.size rfl
      have hce := rdAt_range (f := cI) hi1
      have c0 := hce 0 _ (cI_0 l[j])
      have c3 := hce 3 _ (cI_3 l[j])
      rw [Nat.zero_add] at c0 c3
      clear hoa hbel hce hi1
      have hp : pairT l[j] = l[j].k.n ++ [61] ++ l[j].c.v := rfl
      replace hp := Lib.hid hp
      have m1 : l[j].k.n.length + 1 ≤ maxLen := by unfold maxLen; omega
      have m2 : l[j].k.n.length + 1 + l[j].c.v.length ≤ maxLen := by unfold maxLen; omega
      go_wp2_with (at_builtin; refine wpList_push_at rfl _ _ 86 rfl w.heap.size 9 i0 (.string ByteArray.empty) 1 16 Try.underlying86 hi hz0 hz1 hz2 rfl (by decide) _ _ _ rfl hoa1 _ _ rfl (by simp) rfl ?c0 ?c1 ?c2 hsz1 hbel1 ?_)
      case c0 => exact rfl
      case c1 => unfold maxLen; omega
      case c2 => omega
      intro v' w2 hoa2 hg2 hm2 hbel2 hsz2
      clear hoa1 hbel1 hg2 hm2 c0 c3
      have ho3 : w2.ownsRow w.heap.size 9 1 v' (j + 1) ((l.take (j + 1)).map fun x => strV (pairT x)) := by
        rw [hsn.out, hp.out]
        have e : (Value.string (S l[j].k.n ++ { data := #[61] } ++ S l[j].c.v)) = strV (l[j].k.n ++ [61] ++ l[j].c.v) := by
          unfold strV
          rw [show ({ data := #[61] } : ByteArray) = S [61] from rfl, S_app, S_app]
        rw [← e, List.map_take]; exact hoa2
      clear hoa2
      go_wp2
      go_roundw
      case rel => exact ⟨j + 1, by omega, by go_num, ho3, hbel2⟩
      case measure => simp [intOf]; omega
    · obtain rfl : j = l.length := by omega
      rw [List.take_length] at hoa
      obtain ⟨A3, c3, rfl⟩ := own_form hoa
      have hR := Rd.of_own hoa
      have hcp := hR.cap
      obtain ⟨b3, o3, rfl, hb3, hx3⟩ := hR.at_ h0
      have hJ := Try.strings_Join b3 o3 c3 (l.map fun x => S (pairT x)) (S [59, 32]) wr (by
        intro k x hk
        rw [hx3 k (by
          have := (List.getElem?_eq_some_iff.1 hk).1
          simpa using this)]
        rw [List.getElem?_map] at hk ⊢
        cases e : l[k]? with
        | none => rw [e] at hk; cases hk
        | some y => rw [e] at hk; cases hk; rfl) hb3 (by simp; omega) (by simpa using hcp.1) (by
        have e : ((l.map fun x => S (pairT x)).map (·.data.toList)) = l.map pairT := by simp [S]
        rw [e]; exact ht)
      have e : ((l.map fun x => S (pairT x)).map (·.data.toList)) = l.map pairT := by simp [S]
      rw [e, List.length_map] at hJ
      replace hJ := Lib.hid hJ
      clear e hx3
      go_wp2_with fail
      refine hJ.out.mono ?_
      rintro e w2 ⟨rfl, hb2⟩
      have hB := bel_call hbel hb2
      clear hJ
      go_wp2
      go_ret
      exact ⟨rfl, hB⟩

/-- What 'awake' asks about. -/
def awA : It := ⟨⟨[97], [120], [47]⟩, ⟨[49], false, false, false, false, 0, 0, 0⟩⟩
def awB : It := ⟨⟨[98], [120], [47, 120]⟩, ⟨[50], false, false, false, false, 0, 0, 0⟩⟩
def awR : Rq := ⟨[120], [47, 120, 47, 121], false, false⟩
theorem aw_pick : pickL [awA, awB] awR 0 = [awA, awB] := by
  unfold pickL
  rw [List.filter_cons, if_pos (by decide), List.filter_cons, if_pos (by decide)]
  rfl
theorem aw_srt {R : List It} (h1 : Srt befI R) (h2 : StEq befI [awA, awB] R) : R = [awB, awA] := by
  refine srt_uniq befI_swo h1 (srt_cons.2 ⟨?_, srt_one _⟩) (h2.symm.trans (steq_swap (X := [awA]) (Y := [awB]) befI_swo ?_))
  · intro y hy
    rw [List.mem_singleton.1 hy]; decide
  · intro x hx y hy
    rw [List.mem_singleton.1 hx, List.mem_singleton.1 hy]; decide
theorem aw_text : mtextL [awB, awA] = [98, 61, 50, 59, 32, 97, 61, 49] := by decide
theorem rd_twoI (w : World) (x y : It) (t : TypeId) (g : Nat) (hg : w.heap.size = g) : Rd (w.alloc (.cells (cI x ++ cI y).toArray t)) 11 (.slice (some ⟨g, 0, none⟩) 2 2) 2 ([x, y].flatMap cI) := by
  subst hg
  refine ⟨by simp, _, _, rfl, Nat.le_refl _, by simp [maxLen], .inr ⟨_, _, rfl, by simp, fun j hj => ?_⟩⟩
  rw [Nat.zero_add, cell_of_row _ w.heap.size j _ t (0, 0) (heap_alloc_new w _)]
  simp
def mkCk (x : Array (Nat × Value)) : Sem Value := Instr.build 49 x
@[go_sem ↓] theorem to_mkCk (x : Array (Nat × Value)) : Instr.build 49 x = mkCk x := rfl
@[go_sem] theorem build_ckA (w : World) : (mkCk #[(0, .string { data := #[49] })]).run Try.prog w = .ok (vCk awA.c) w := by unfold mkCk; kernel_rfl
@[go_sem] theorem build_ckB (w : World) : (mkCk #[(0, .string { data := #[50] })]).run Try.prog w = .ok (vCk awB.c) w := by unfold mkCk; kernel_rfl
@[go_sem] theorem build_kyA (w : World) : (mkK #[(0, .string { data := #[97] }), (1, .string { data := #[120] }), (2, .string { data := #[47] })]).run Try.prog w = .ok (vK awA.k) w := by unfold mkK; kernel_rfl
@[go_sem] theorem build_kyB (w : World) : (mkK #[(0, .string { data := #[98] }), (1, .string { data := #[120] }), (2, .string { data := #[47, 120] })]).run Try.prog w = .ok (vK awB.k) w := by unfold mkK; kernel_rfl
@[go_sem] theorem build_itA (w : World) : (mkI #[(0, vK awA.k), (1, vCk awA.c)]).run Try.prog w = .ok (vI awA) w := build_it w awA.k awA.c
@[go_sem] theorem build_itB (w : World) : (mkI #[(0, vK awB.k), (1, vCk awB.c)]).run Try.prog w = .ok (vI awB) w := build_it w awB.k awB.c
def mkRq (x : Array (Nat × Value)) : Sem Value := Instr.build 61 x
@[go_sem ↓] theorem to_mkRq (x : Array (Nat × Value)) : Instr.build 61 x = mkRq x := rfl
@[go_sem] theorem build_rqA (w : World) : (mkRq #[(0, .string { data := #[120] }), (1, .string { data := #[47, 120, 47, 121] })]).run Try.prog w = .ok (rqV awR) w := by unfold mkRq; kernel_rfl
set_option maxHeartbeats 2000000 in
theorem awake15 (w : World) : Calls Try.prog 33 #[] w fun e w' => e = .returned (.bool true) ∧ Below w.heap.size w w' := by
  go_enter Try.func33, Try.ntmps33
  go_wp2_with fail
  have hB0 : Below w.heap.size w (((w.alloc (.cells (cI awA).toArray 51)).alloc (.cells (cI awB).toArray 51)).alloc (.cells (cI awA ++ cI awB).toArray 51)) := bel_alloc (bel_alloc (bel_alloc (Below.refl _ _) _) _) _
  have hR0 := rd_twoI ((w.alloc (.cells (cI awA).toArray 51)).alloc (.cells (cI awB).toArray 51)) awA awB 51 (w.heap.size + 1 + 1) (by simp)
  show Calls _ _ _ (((w.alloc (.cells (cI awA).toArray 51)).alloc (.cells (cI awB).toArray 51)).alloc (.cells (cI awA ++ cI awB).toArray 51)) _
  generalize (((w.alloc (.cells (cI awA).toArray 51)).alloc (.cells (cI awB).toArray 51)).alloc (.cells (cI awA ++ cI awB).toArray 51)) = W at *
  refine (pick_any _ 2 2 [awA, awB] awR 0 W hR0 (by omega) ?s1 (by decide) (by decide)).mono ?_
  case s1 =>
    intro x hx
    rcases List.mem_cons.1 hx with rfl | hx
    · decide
    · rw [List.mem_singleton.1 hx]; decide
  rintro e w1 ⟨A, c, R, rfl, g1, g2, g3, g4, hb1⟩
  rw [aw_pick] at g1 g3 g4
  obtain rfl := aw_srt g2 g3
  have hB1 := bel_call hB0 hb1
  clear g2 g3 g4 hR0 hB0 hb1
  rw [aw_pick]
  go_wp2_with fail
  refine (mtext_any _ _ _ [awB, awA] w1 g1 (by simp) (by simp) ?s2 (by rw [aw_text]; decide)).mono ?_
  case s2 =>
    intro x hx
    rcases List.mem_cons.1 hx with rfl | hx
    · decide
    · rw [List.mem_singleton.1 hx]; decide
  rintro e w2 ⟨rfl, hb2⟩
  have hB2 := bel_call hB1 hb2
  rw [aw_text]
  clear g1 hB1 hb2
  go_wp2
  go_ret
  exact ⟨rfl, hB2⟩
end Go.Proofs.Ytdefpphfbpkeaaa
