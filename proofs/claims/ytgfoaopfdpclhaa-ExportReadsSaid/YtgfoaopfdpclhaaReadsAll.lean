/-
  Joined texts: ExpF ExpX ExpR Exp6 Exp9 ExpS Exp8 Appl1 ExpV.
-/
import Derived.Test.YtgfoaopfdpclhaaExpT
import Derived.Test.YtgfoaopfdpclhaaView
import Derived.Lib.AppendStr
import Derived.Lib.BufferRead
import Derived.Test.YtgfoaopfdpclhaaExp5
import Derived.Test.YtgfoaopfdpclhaaIns
import Derived.Deep.DeepCutAuto
import Derived.Test.YtgfoaopfdpclhaaExp7
import Derived.Test.YtgfoaopfdpclhaaAppP
import Derived.Test.YtgfoaopfdpclhaaDiff5
namespace Go.Proofs.Ytgfoaopfdpclhaa
open Go.RowKit
set_option linter.unusedVariables false

set_option maxHeartbeats 2000000 in
theorem find46_any (A : Option Addr) (n c : Nat) (l : List It) (k : Ky) (w : World) (h : Rd w 11 (.slice A n c) n (l.flatMap cI)) :
    Calls Try.prog 38 #[.slice A n c, vK k] w fun e w' => e = .returned (.bool (hasK l k)) ∧ Below w.heap.size w w' := by
  have hl := h.rows (sz := 11) (f := cI) (fun q => rfl) (by decide)
  have hcap := h.cap
  unfold maxLen at hcap
  obtain ⟨hca, hcb⟩ := hcap
  subst hl
  go_enter Try.func38, Try.ntmps38
  go_wp2_with fail
  have hB : Below w.heap.size w (w.alloc (Obj.cells (cK k).toArray 23)) := bel_alloc (Below.refl _ _) _
  have hk0 : kyAt (w.alloc (Obj.cells (cK k).toArray 23)) w.heap.size 0 = some k := by go_simp
  show Code.wp _ _ _ _ (w.alloc (Obj.cells (cK k).toArray 23))
  have hgs : w.heap.size < (w.alloc (Obj.cells (cK k).toArray 23)).heap.size := by simp
  generalize (w.alloc (Obj.cells (cK k).toArray 23)) = W at *
  go_loopw [9] (fun i wr => ∃ j : Nat, j ≤ l.length ∧ i = .int .i64 j ∧ Below w.heap.size w wr ∧ kyAt wr w.heap.size 0 = some k ∧ Hid (findI (l.take j) k = none)) (fun i _ => l.length - (intOf i).toNat)
  case atStart => exact ⟨0, Nat.zero_le _, rfl, hB, hk0, rfl⟩
  case round =>
    obtain ⟨j, hj, rfl, hbel, hk, hno⟩ := hrel
    clear hk0 hB
    by_cases hlt : j < l.length
    · have hji : (j : Int) < l.length := by omega
      have hj0 : (0 : Int) ≤ (j : Int) := by omega
      obtain ⟨b, off, rfl, hb, hx⟩ := (h.below hbel).items hlt
      obtain ⟨hxi, hxk⟩ := hx j hlt
      clear hx
      have ht := findI_take hlt hno.out
      have hkl : w.heap.size < wr.heap.size := World.block_lt_of_cell? _ _ (ky_cells hk).1
      have hB2 := Lib.hid (bel_alloc hbel (.cells (cI l[j]).toArray 27))
      by_cases he : l[j].k = k
      · have hfin := Lib.hid (ht.1 he)
        have heb : decide (l[j].k = k) = true := decide_eq_true he
        clear ht he
        go_wp2
        go_ret
        exact ⟨ret_bool (by unfold hasK; rw [hfin.out]; rfl), hB2.out⟩
      · have hnx := Lib.hid (ht.2 he)
        have heb : decide (l[j].k = k) = false := decide_eq_false he
        clear ht he
        go_wp2
        go_roundw
        case rel => exact ⟨j + 1, by omega, by go_num, hB2.out, kyAt_later hk (bel_alloc (Below.refl _ _) _), hnx.out⟩
        case measure => simp [intOf]; omega
    · obtain rfl : j = l.length := by omega
      have hfin : Hid (findI l k = none) := by have := hno.out; rwa [List.take_length] at this
      clear hno
      go_wp2
      go_ret
      exact ⟨ret_bool (by unfold hasK; rw [hfin.out]; rfl), hbel⟩
end Go.Proofs.Ytgfoaopfdpclhaa
namespace Go.Proofs.Ytgfoaopfdpclhaa
open Go.RowKit
set_option linter.unusedVariables false

theorem puts_app : ∀ (r s : List It) (out : List It), putsT out (r ++ s) = (putsT out r).bind fun o => putsT o s
  | [], s, out => rfl
  | x :: r, s, out => by
    rw [List.cons_append, putsT, putsT]
    split
    · rfl
    · exact puts_app r s _
theorem putV_le (l : List It) (x : It) : (putV l x).length ≤ l.length + 1 := by
  unfold putV
  have h : (woL l x.k).length ≤ l.length := List.length_filter_le _ _
  rw [List.length_append, List.length_cons, List.length_take, List.length_drop]
  omega
theorem puts_len : ∀ (r : List It) {out o : List It}, putsT out r = some o → o.length ≤ out.length + r.length
  | [], out, o, h => by rw [putsT] at h; cases h; simp
  | x :: r, out, o, h => by
    rw [putsT] at h
    split at h
    · cases h
    · have := puts_len r h
      have := putV_le out x
      rw [List.length_cons]; omega
theorem puts_mem : ∀ (r : List It) {out o : List It}, putsT out r = some o → ∀ y ∈ o, y ∈ out ∨ y ∈ r
  | [], out, o, h, y, hy => by rw [putsT] at h; cases h; exact .inl hy
  | x :: r, out, o, h, y, hy => by
    rw [putsT] at h
    split at h
    · cases h
    · rcases puts_mem r h y hy with h | h
      · rcases mem_putV h with h | h
        · exact .inl h
        · rw [h]; exact .inr (by simp)
      · exact .inr (List.mem_cons_of_mem _ h)
theorem puts_sum : ∀ (r : List It) {out o : List It}, putsT out r = some o → sumT o ≤ sumT out + sumT r
  | [], out, o, h => by rw [putsT] at h; cases h; exact Nat.le_add_right _ _
  | x :: r, out, o, h => by
    rw [putsT] at h
    split at h
    · cases h
    · have := puts_sum r h
      have := sumT_putV out x
      rw [sumT_cons]; omega
theorem puts_next {l out : List It} {j : Nat} (hj : j < l.length) (h : putsT [] (l.take j) = some out) : putsT [] (l.take (j + 1)) = if hasK out l[j].k then none else some (putV out l[j]) := by
  rw [List.take_succ_eq_append_getElem hj, puts_app, h]
  show putsT out [l[j]] = _
  rw [putsT]; rfl
theorem puts_dead {l out : List It} {j : Nat} (hj : j < l.length) (h : putsT [] (l.take j) = some out) (hk : hasK out l[j].k = true) : putsT [] l = none := by
  have e := puts_next hj h
  rw [hk, if_pos rfl] at e
  have e2 : l = l.take (j + 1) ++ l.drop (j + 1) := (List.take_append_drop _ _).symm
  rw [e2, puts_app, e]; rfl
theorem lines_take {l : List It} {j : Nat} (hj : j < l.length) : linesT (l.take (j + 1)) = linesT (l.take j) ++ (lineS l[j] ++ [10]) := by
  unfold linesT
  rw [List.take_succ_eq_append_getElem hj, List.flatMap_append, List.flatMap_singleton]
theorem sum_take (l : List It) (j : Nat) : sumT (l.take j) ≤ sumT l := by
  have e : sumT l = sumT (l.take j) + sumT (l.drop j) := by rw [← sumT_app, List.take_append_drop]
  omega
theorem sum_mem {l : List It} {x : It} (h : x ∈ l) : (lineS x).length + 1 ≤ sumT l := by
  induction l with
  | nil => cases h
  | cons a r ih =>
    rw [sumT_cons]
    rcases List.mem_cons.1 h with h | h
    · subst h; omega
    · have := ih h; omega
theorem Try.infoU8 : (Try.prog.info? 5).map (fun i => (i.zero, i.size, i.bytes)) = some (some (.int .u8 0), 1, 1) := by kernel_rfl
theorem str_cells (l : List UInt8) : Go.Lib.strCells (S l) = l.map u8V := rfl
theorem conv_own {w : World} {B : Nat} {v : Value} {l : List UInt8} (ho : w.ownsRow B 5 1 v l.length (l.map u8V)) : (convert 55 9 v).run Try.prog w = .ok (.string (S l)) w := by
  rcases ho.2 with ⟨rfl, hl⟩ | ⟨g, cap, cur, rfl, _⟩
  · have : l = [] := List.eq_nil_of_length_eq_zero hl
    subst this
    exact Go.Lib.run_convert_nil_bytes w 55 9 5 0 Try.underlying55 Try.underlying5 Try.underlying9
  · exact run_bytes_S w 55 9 5 ⟨g, 0, none⟩ l.length cap l rfl Try.underlying55 Try.underlying5 Try.underlying9 (fun j hj => by
      refine ho.cells (g := g) rfl j _ ?_
      rw [List.getElem?_map, List.getElem?_eq_getElem hj, List.getD_eq_getElem?_getD, List.getElem?_eq_getElem hj]
      rfl)
set_option maxRecDepth 20000 in
set_option maxHeartbeats 8000000 in
theorem text46_any (A : Option Addr) (c : Nat) (l : List It) (w : World) (h : Rd w 11 (.slice A l.length c) l.length (l.flatMap cI)) (hn : l.length ≤ 50000) (hm : ∀ x ∈ l, MdI x) (hs : sumT l ≤ 1000000) :
    Calls Try.prog 16 #[.slice A l.length c] w fun e w' => e = .returned (.tuple #[.string (S (textS l)), .int .i64 (textE l)]) ∧ Below w.heap.size w w' := by
  have hcap := h.cap
  unfold maxLen at hcap
  obtain ⟨hca, hcb⟩ := hcap
  go_enter Try.func16, Try.ntmps16
  go_wp2_with fail
  go_loopw [18] (fun i wr => ∃ j : Nat, j ≤ l.length ∧ i = .int .i64 j ∧ Below w.heap.size w wr ∧ Hid (badT (l.take j) = false)) (fun i _ => l.length - (intOf i).toNat)
  case atStart => exact ⟨0, Nat.zero_le _, rfl, Below.refl _ _, rfl⟩
  case round =>
    obtain ⟨j, hj, rfl, hbel, hno⟩ := hrel
    by_cases hlt : j < l.length
    · have hji : (j : Int) < l.length := by omega
      have hj0 : (0 : Int) ≤ (j : Int) := by omega
      obtain ⟨b, off, rfl, hb, hx⟩ := (h.below hbel).items hlt
      obtain ⟨hxi, hxk⟩ := hx j hlt
      clear hx hxk
      have hmj := hm _ (List.getElem_mem hlt)
      have hB2 := bel_alloc hbel (.cells (cI l[j]).toArray 27)
      have hnx : Hid (badT (l.take (j + 1)) = (lineO l[j]).isNone) := by
        show _ = _
        unfold badT at *
        rw [List.take_succ_eq_append_getElem hlt, List.any_append, show (l.take j).any (fun x => (lineO x).isNone) = false from hno.out]
        simp
      have hbad : Hid ((lineO l[j]).isNone = true → badT l = true) := fun e => List.any_eq_true.2 ⟨l[j], List.getElem_mem hlt, e⟩
      clear hno
      go_wp2_with fail
      refine (line_any l[j] _ hmj).mono ?_
      rintro e w2 ⟨rfl, hb2⟩
      have hB3 := bel_call hB2 hb2
      clear hB2 hb2 hxi hbel
      cases hq : lineO l[j] with
      | none =>
        rw [(lineS_none hq).1, (lineS_none hq).2]
        have hbd := hbad.out (by rw [hq]; rfl)
        have hF : Hid (textS l = [] ∧ textE l = 1) := by
          have e : textE l = 1 := by unfold textE; rw [hbd]; rfl
          exact ⟨by unfold textS; rw [e]; rfl, e⟩
        clear hbad hnx hbd hq
        go_wp2
        go_ret2
        exact ⟨by rw [hF.out.1, hF.out.2]; rfl, hB3⟩
      | some t =>
        rw [(lineS_some hq).1, (lineS_some hq).2]
        have hn2 : Hid (badT (l.take (j + 1)) = false) := by show _ = _; rw [hnx.out, hq]; rfl
        clear hnx hbad hq
        go_wp2
        go_roundw
        case rel => exact ⟨j + 1, by omega, by go_num, hB3, hn2⟩
        case measure => simp [intOf]; omega
    · obtain rfl : j = l.length := by omega
      have hbd : Hid (badT l = false) := by have := hno.out; rwa [List.take_length] at this
      clear hno
      have hbel1 := hbel
      clear hbel
      have hown0 : ∀ wr : World, wr.ownsRow w.heap.size 27 11 (.slice none 0 0) 0 [] := fun wr => ⟨rfl, .inl ⟨rfl, rfl⟩⟩
      go_wp2_with fail
      go_loopw [8, 33] (fun va i wr => ∃ (j : Nat) (out : List It), j ≤ l.length ∧ i = .int .i64 j ∧ Hid (putsT [] (l.take j) = some out) ∧ wr.ownsRow w.heap.size 27 11 va out.length (out.flatMap cI) ∧ Below w.heap.size w wr) (fun _ i _ => l.length - (intOf i).toNat)
      case atStart => exact ⟨0, [], Nat.zero_le _, rfl, rfl, hown0 _, hbel1⟩
      case round =>
        obtain ⟨j, out, hj, rfl, hp, ho, hbel⟩ := hrel
        clear hbel1
        by_cases hlt : j < l.length
        · have hji : (j : Int) < l.length := by omega
          have hj0 : (0 : Int) ≤ (j : Int) := by omega
          obtain ⟨b, off, rfl, hb, hx⟩ := (h.below hbel).items hlt
          obtain ⟨hxi, hxk⟩ := hx j hlt
          clear hx hxk
          have hol := puts_len _ hp.out
          rw [List.length_take, List.length_nil] at hol
          have hnext := Lib.hid (puts_next hlt hp.out)
          have hdead := Lib.hid (puts_dead hlt hp.out)
          clear hp
          obtain ⟨A1, c1, rfl⟩ := own_form ho
          have hR1 := (Rd.of_own ho).alloc (.cells (cI l[j]).toArray 27)
          have ho1 := ho.alloc (.cells (cI l[j]).toArray 27)
          have hB1 := bel_alloc hbel (.cells (cI l[j]).toArray 27)
          have hz1 := itAt_new wr l[j] 27 wr.heap.size rfl
          clear ho
          go_wp2_with fail
          refine (find46_any A1 _ c1 out l[j].k _ hR1).mono ?_
          rintro e w2 ⟨rfl, hb2⟩
          have hB2 := bel_call hB1 hb2
          have hR2 := hR1.below hb2
          have ho2 := own_below ho1 hb2
          have hz2 := itAt_later hz1 hb2
          clear hB1 hb2 hR1 ho1 hz1 hxi hbel hb
          cases hk : hasK out l[j].k with
          | true =>
            have hF : Hid (textS l = [] ∧ textE l = 11) := by
              have e : textE l = 11 := by unfold textE; rw [hbd.out, hdead.out hk]; rfl
              exact ⟨by unfold textS; rw [e]; rfl, e⟩
            clear hnext hdead hk
            go_wp2
            go_ret2
            exact ⟨by rw [hF.out.1, hF.out.2]; rfl, hB2⟩
          | false =>
            have hn2 : Hid (putsT [] (l.take (j + 1)) = some (putV out l[j])) := by show _ = _; rw [hnext.out, hk]; rfl
            clear hnext hdead hk
            go_wp2_with fail
            refine (vPut_any A1 _ c1 out l[j] _ hR2 (by omega)).mono ?_
            rintro e w3 ⟨A3, c3, rfl, ho3, hb3⟩
            have hB3 := bel_call hB2 hb3
            have hsz := hB2.size
            have ho3' := own_low ho3 hsz
            clear hB2 hR2 ho2 hz2 ho3 hb3
            go_wp2
            go_roundw
            case rel => exact ⟨j + 1, putV out l[j], by omega, by go_num, hn2, ho3', hB3⟩
            case measure => simp [intOf]; omega
        · obtain rfl : j = l.length := by omega
          rw [List.take_length] at hp
          have hol := puts_len _ hp.out
          have hom := puts_mem _ hp.out
          have hos := puts_sum _ hp.out
          rw [List.length_nil] at hol
          have hos2 : sumT out ≤ 1000000 := by have : sumT [] = 0 := rfl; omega
          have hmo : ∀ x ∈ out, MdI x := fun x hx => by
            rcases hom x hx with h | h
            · cases h
            · exact hm x h
          have hF : Hid (textS l = linesT out ∧ textE l = 0) := by
            have e : textE l = 0 := by
              unfold textE
              rw [hbd.out, hp.out, if_neg (by simp), if_neg (by simp), if_neg]
              show ¬ (linesT out).length > 1048576
              rw [lines_len]; omega
            exact ⟨by unfold textS; rw [if_pos e, hp.out]; rfl, e⟩
          clear hp hom hos hm hbd
          obtain ⟨A1, c1, rfl⟩ := own_form ho
          have hR := Rd.of_own ho
          clear ho hown0 h
          generalize wr = Wb at *
          obtain ⟨i8, hi8, hz8, hs8, hb8⟩ := info_parts Try.infoU8
          have hown0 : Wb.ownsRow Wb.heap.size 5 1 (.slice none 0 0) (linesT (out.take 0)).length ((linesT (out.take 0)).map u8V) := ⟨rfl, .inl ⟨rfl, rfl⟩⟩
          go_wp2_with fail
          go_loopw [11, 47] (fun vb i wx => ∃ j : Nat, j ≤ out.length ∧ i = .int .i64 j ∧ wx.ownsRow Wb.heap.size 5 1 vb (linesT (out.take j)).length ((linesT (out.take j)).map u8V) ∧ Below Wb.heap.size Wb wx) (fun _ i _ => out.length - (intOf i).toNat)
          case atStart => exact ⟨0, Nat.zero_le _, rfl, hown0, Below.refl _ _⟩
          case round =>
            obtain ⟨j, hj2, rfl, ho, hb1⟩ := hrel
            clear hown0
            by_cases hlt2 : j < out.length
            · have hji : (j : Int) < out.length := by omega
              have hj0 : (0 : Int) ≤ (j : Int) := by omega
              obtain ⟨b, off, rfl, hbb, hx⟩ := (hR.below hb1).items hlt2
              obtain ⟨hxi, hxk⟩ := hx j hlt2
              clear hx hxk
              have hmj := hmo _ (List.getElem_mem hlt2)
              have hsl := sum_mem (List.getElem_mem hlt2)
              have hst := sum_take out j
              rw [← lines_len] at hst
              have hnx := Lib.hid (lines_take hlt2)
              have hB1 := bel_alloc hb1 (.cells (cI out[j]).toArray 27)
              have ho1 := ho.alloc (.cells (cI out[j]).toArray 27)
              clear ho
              generalize hLj : linesT (out.take j) = Lj at *
              clear hLj
              go_wp2_with fail
              refine (line_any out[j] _ hmj).mono ?_
              rintro e w2 ⟨rfl, hb2⟩
              have hB2 := bel_call hB1 hb2
              have ho2 := own_below ho1 hb2
              clear hB1 hb2 ho1 hxi hbb hmj hb1
              generalize lineS out[j] = t at *
              have hc1 : ¬ (9223372036854775807 < t.length + 1) := by omega
              have hc2 : t.length + 1 ≤ maxLen := by unfold maxLen; omega
              have hsz2 := hB2.size
              go_wp2_with (at_builtin; refine Go.Lib.wpList_append_own_string _ rfl _ _ 55 9 rfl Wb.heap.size 5 i8 Try.underlying55 Try.underlying9 hi8 hz8 hs8 hb8 _ _ _ rfl ho2 (S (t ++ [10])) rfl ?c1 ?c2 hsz2 ?_)
              case c1 => unfold maxLen; simp; omega
              case c2 => simp; omega
              intro v3 w3 ho3 hg3 hn3
              have hB3 := hB2.grown hg3 hsz2 (fun k hk => (ho2.lt k hk).1)
              clear ho2 hg3 hn3 hB2
              go_wp2
              go_roundw
              case rel => exact ⟨j + 1, by omega, by go_num, by rw [hnx.out, List.map_append, List.length_append]; simpa [str_cells] using ho3, hB3⟩
              case measure => simp [intOf]; omega
            · obtain rfl : j = out.length := by omega
              rw [List.take_length] at ho
              rw [← lines_len] at hos2
              generalize linesT out = Lo at *
              have hB9 := bel_call hbel hb1
              have hlg : ¬ ((1048576 : Int) < Lo.length) := by omega
              have hcv := conv_own ho
              obtain ⟨A4, c4, rfl⟩ := own_form ho
              clear ho hR hbel hb1 hmo
              go_wp2
              go_ret2
              exact ⟨by rw [hF.out.1, hF.out.2]; rfl, hB9⟩
end Go.Proofs.Ytgfoaopfdpclhaa
namespace Go.Proofs.Ytgfoaopfdpclhaa
open Go.RowKit
set_option linter.unusedVariables false

def lenV : Value → Nat
  | .string b => b.size
  | _ => 0
theorem lenV_S (t : List UInt8) : lenV (.string (S t)) = t.length := rfl
def ReadPost (R : List It × Nat × Int) (w : World) (e : Ending) (w' : World) : Prop :=
  ∃ A c, e = .returned (.tuple #[.slice A R.1.length c, .int .i64 R.2.1, .int .i64 R.2.2]) ∧ w'.ownsRow w.heap.size 27 11 (.slice A R.1.length c) R.1.length (R.1.flatMap cI) ∧ Below w.heap.size w w'
theorem read_none {R : List It × Nat × Int} {n : Nat} {k : Int} {w w' : World} (h : R = ([], n, k)) (hb : Below w.heap.size w w') : ReadPost R w (.returned (.tuple #[.slice none 0 0, .int .i64 n, .int .i64 k])) w' := by
  subst h
  exact ⟨none, 0, rfl, ⟨rfl, .inl ⟨rfl, rfl⟩⟩, hb⟩
theorem readL_cons (now : Int) (out : List It) (n : Nat) (a b : List UInt8) : readL now out n (a :: splitL b 10) = if passedB a then readL now out (n + 1) (splitL b 10) else match parseO a now with
    | none => ([], n, 1)
    | some x => if hasK out x.k then ([], n, 11) else readL now (putV out x) (n + 1) (splitL b 10) := by
  cases h : splitL b 10 with
  | nil => exact absurd h (split_ne b 10)
  | cons q r =>
    rw [readL]
    cases passedB a <;> cases parseO a now <;> rfl
set_option maxRecDepth 20000 in
set_option maxHeartbeats 8000000 in
theorem read46_any (s : List UInt8) (now : Int) (w : World) (hs : s.length ≤ 1000000) (hp : ∀ p ∈ splitL s 10, p.length ≤ 100000) (hq : (splitL s 10).length ≤ 90000) (hn1 : -9223372036854775808 ≤ now) (hn2 : now ≤ 9223372036854775807) :
    Calls Try.prog 18 #[.string (S s), .int .i64 now] w (ReadPost (readL now [] 1 (splitL s 10)) w) := by
  obtain ⟨R, hR⟩ : ∃ R, R = readL now [] 1 (splitL s 10) := ⟨_, rfl⟩
  rw [← hR]
  have hR0 := Lib.hid hR.symm
  clear hR
  have hs2 : ¬ ((1048576 : Int) < s.length) := by omega
  go_enter Try.func18, Try.ntmps18
  go_wp2_with fail
  go_loopw [0, 7, 8] (fun vs va vn wr => ∃ (t : List UInt8) (out : List It) (n : Nat), vs = .string (S t) ∧ vn = .int .i64 n ∧ t.length + n ≤ s.length + 1 ∧ n + (splitL t 10).length ≤ 90001 ∧ (∀ p ∈ splitL t 10, p.length ≤ 100000) ∧ Hid (readL now out n (splitL t 10) = R) ∧ wr.ownsRow w.heap.size 27 11 va out.length (out.flatMap cI) ∧ out.length + 1 ≤ n ∧ Below w.heap.size w wr) (fun vs _ _ _ => lenV vs)
  case atStart => exact ⟨s, [], 1, rfl, rfl, by omega, by omega, hp, hR0, ⟨rfl, .inl ⟨rfl, rfl⟩⟩, by simp, Below.refl _ _⟩
  case round =>
    obtain ⟨t, out, n, rfl, rfl, htl, hnl, hpt, hR, ho, hol, hbel⟩ := hrel
    clear hR0 hp hq
    obtain ⟨A1, c1, rfl⟩ := own_form ho
    by_cases h0 : t = []
    · subst h0
      have hF : Hid (R = (out, 0, 0)) := by
        show _ = _
        rw [← hR.out]; rfl
      clear hR hpt
      go_wp2
      go_ret3
      rw [hF.out]
      exact ⟨A1, c1, rfl, ho, hbel⟩
    · have e1 : (t == []) = false := by simpa using h0
      have hm : (S t).size ≤ maxLen := by unfold maxLen; simp; omega
      cases hc : cutL t 10 with
      | none =>
        have hF : Hid (R = ([], n, 2)) := by
          show _ = _
          rw [← hR.out, split_cut, hc]
          show readL now out n [t] = _
          rw [readL, if_neg h0]
        clear hR hpt
        go_wp2_with fail
        refine (cut_any_none (S t) 10 _ hm (by rw [S_toList]; exact hc)).mono ?_
        rintro e w1 ⟨rfl, rfl⟩
        clear hc h0
        go_wp2
        go_ret3
        exact read_none hF.out hbel
      | some ab =>
        obtain ⟨a, b⟩ := ab
        have hab := cut_some hc
        have hsp : splitL t 10 = a :: splitL b 10 := by rw [split_cut, hc]
        rw [hsp] at hpt
        have ha := hpt a (by simp)
        have hpb : ∀ p ∈ splitL b 10, p.length ≤ 100000 := fun p hp => hpt p (List.mem_cons_of_mem _ hp)
        have hR2 : Hid (readL now out n (a :: splitL b 10) = R) := by rw [← hsp]; exact hR
        have hlab : t.length = a.length + 1 + b.length := by
          have := hab.2.2.2.1
          rw [this]; simp; omega
        rw [readL_cons] at hR2
        rw [hsp, List.length_cons] at hnl
        clear hpt hab hsp hR
        go_wp2_with fail
        refine (cut_any_some (S t) 10 _ hm a b (by rw [S_toList]; exact hc)).mono ?_
        rintro e w1 ⟨rfl, hb1⟩
        have hB1 := bel_call hbel hb1
        have ho1 := own_below ho hb1
        clear hbel ho hb1 hc h0
        go_wp2_with fail
        refine (passed_any a _ (by omega)).mono ?_
        rintro e w2 ⟨rfl, rfl⟩
        cases hpa : passedB a with
        | true =>
          rw [hpa, if_pos rfl] at hR2
          clear hpa e1 hm
          go_wp2
          go_roundw
          case rel => exact ⟨b, out, n + 1, rfl, by go_num, by omega, by omega, hpb, hR2, ho1, by omega, hB1⟩
          case measure => rw [lenV_S, lenV_S]; omega
        | false =>
          rw [hpa, if_neg (by simp)] at hR2
          clear hpa e1 hm
          go_wp2_with fail
          refine (parse_any a now _ ha hn1 hn2).mono ?_
          rintro e w3 ⟨rfl, hb3⟩
          have hB3 := bel_call hB1 hb3
          have ho3 := own_below ho1 hb3
          clear hB1 ho1 hb3
          cases hpo : parseO a now with
          | none =>
            rw [hpo] at hR2
            have e2 := parse_none (s := a) (now := now) (by rw [hpo]; rfl)
            rw [e2.1, e2.2]
            clear hpo e2
            have hB4 := Lib.hid (bel_alloc hB3 (.cells (cI itZ).toArray 27))
            clear hB3 ho3
            go_wp2
            go_ret3
            exact read_none hR2.out.symm hB4.out
          | some x =>
            rw [hpo] at hR2
            have e2 := parse_is hpo
            rw [e2.1, e2.2]
            clear hpo e2
            have hB4 := bel_alloc hB3 (.cells (cI x).toArray 27)
            have ho4 := ho3.alloc (.cells (cI x).toArray 27)
            have hx4 := itAt_new w3 x 27 w3.heap.size rfl
            have hR4 := Rd.of_own ho4
            clear hB3 ho3
            go_wp2_with fail
            refine (find46_any A1 _ c1 out x.k _ hR4).mono ?_
            rintro e w5 ⟨rfl, hb5⟩
            have hB5 := bel_call hB4 hb5
            have hR5 := hR4.below hb5
            have hx5 := itAt_later hx4 hb5
            clear hB4 ho4 hx4 hR4 hb5
            cases hk : hasK out x.k with
            | true =>
              have hF : Hid (R = ([], n, 11)) := by show _ = _; rw [← hR2.out]; show (if hasK out x.k = true then _ else _) = _; rw [hk]; rfl
              clear hR2 hk
              go_wp2
              go_ret3
              exact read_none hF.out hB5
            | false =>
              have hF : Hid (readL now (putV out x) (n + 1) (splitL b 10) = R) := by show _ = _; rw [← hR2.out]; show _ = (if hasK out x.k = true then _ else _); rw [hk]; rfl
              clear hR2 hk
              go_wp2_with fail
              refine (vPut_any A1 _ c1 out x _ hR5 (by omega)).mono ?_
              rintro e w6 ⟨A6, c6, rfl, ho6, hb6⟩
              have hB6 := bel_call hB5 hb6
              have hsz := hB5.size
              have ho6' := own_low ho6 hsz
              have hle := putV_le out x
              clear hB5 hR5 hx5 ho6 hb6
              go_wp2
              go_roundw
              case rel => exact ⟨b, putV out x, n + 1, rfl, by go_num, by omega, by omega, hpb, hF, ho6', by omega, hB6⟩
              case measure => rw [lenV_S, lenV_S]; omega
end Go.Proofs.Ytgfoaopfdpclhaa
namespace Go.Proofs.Ytgfoaopfdpclhaa
open Go.RowKit
set_option linter.unusedVariables false

def refParseV (s : List UInt8) (now : Int) : Value := .tuple #[vI (parseI s now), .bool (parseO s now).isSome]
theorem parse_off {s : List UInt8} {now : Int} (h : (parseO s now).isSome = false) : refParseV s now = .tuple #[vI itZ, .bool false] := by
  unfold refParseV; rw [(parse_none h).1, h]
set_option maxRecDepth 20000 in
set_option maxHeartbeats 4000000 in
theorem refParse_short (s : List UInt8) (now : Int) (w : World) (hs : s.length ≤ 100000) (h7 : (splitL s 9).length ≠ 7 ∨ passedB s = true) :
    Calls Try.prog 13 #[.string (S s), .int .i64 now] w fun e w' => e = .returned (refParseV s now) ∧ Below w.heap.size w w' := by
  have hz : (S s).size ≤ 4294967296 := by simp; omega
  have hoff : Hid (refParseV s now = .tuple #[vI itZ, .bool false]) := by
    refine parse_off ?_
    unfold parseO
    rcases h7 with h | h
    · rw [decide_eq_false h]; rfl
    · rw [h]; simp
  have hB := bel_alloc (Below.refl w.heap.size w) (.cells (cI itZ).toArray 27)
  have hth : (w.alloc (.cells (cI itZ).toArray 27)).there w.heap.size 0 11 := by
    rw [there_alloc_new w _ _ _ _ _ rfl (by simp)]; trivial
  go_enter Try.func13, Try.ntmps13
  go_upto_region 1 with (fail)
  show Code.wp _ _ _ _ (w.alloc (.cells (cI itZ).toArray 27))
  have hgw : (w.alloc (.cells (cI itZ).toArray 27)).heap.size = w.heap.size + 1 := by simp
  generalize w.alloc (.cells (cI itZ).toArray 27) = w0 at *
  go_wp2_with fail
  refine (refSplit_any (S s) 9 _ hz).mono ?_
  rintro e w1 ⟨A, cp, rfl, hO, hb1⟩
  rw [S_toList]
  clear hO
  replace hB := bel_call hB hb1
  replace hth := it_there5 hth hb1 (by omega)
  by_cases hl : (splitL s 9).length = 7
  · have hP : passedB s = true := by rcases h7 with h | h; exact absurd hl h; exact h
    have hl7 : (((splitL s 9).length : Int) != 7) = false := by rw [hl]; rfl
    clear hl h7
    go_wp2_with fail
    refine (refPassed_any s _ (by omega)).mono ?_
    rintro e w2 ⟨rfl, rfl⟩
    rw [hP]
    clear hP
    go_upto_region 3 with (fail)
    repeat go_step
    refine ret_item2 (x := noneI k0) Try.results13 rfl rfl (itAt_setCells _ hth) ⟨?_, below_setCells _ _ _ hB (Nat.le_refl _)⟩
    rw [hoff.out]
    rfl
  · have hl7 : (((splitL s 9).length : Int) != 7) = true := by simp; omega
    clear hl h7
    go_upto_region 3 with (fail)
    repeat go_step
    refine ret_item2 (x := noneI k0) Try.results13 rfl rfl (itAt_setCells _ hth) ⟨?_, below_setCells _ _ _ hB (Nat.le_refl _)⟩
    rw [hoff.out]
    rfl
end Go.Proofs.Ytgfoaopfdpclhaa
namespace Go.Proofs.Ytgfoaopfdpclhaa
open Go.RowKit
set_option linter.unusedVariables false

/-- An item's cells. -/
def iC (x : It) : Array Value := #[.string (S x.k.n), .string (S x.k.d), .string (S x.k.p), .string (S x.c.v), .bool x.c.ho, .bool x.c.se, .bool x.c.ht, .bool x.c.pe, .int .i64 x.c.ex, .int .i64 x.c.cr, .int .i64 x.c.ac]
theorem ic_cells {w : World} {g : Nat} {t : TypeId} {x : It} (h : Blk w g t (iC x)) :
    w.cell? ⟨g, 0, none⟩ = some (.string (S x.k.n)) ∧ w.cell? ⟨g, 1, none⟩ = some (.string (S x.k.d)) ∧ w.cell? ⟨g, 2, none⟩ = some (.string (S x.k.p)) ∧ w.cell? ⟨g, 3, none⟩ = some (.string (S x.c.v)) ∧ w.cell? ⟨g, 4, none⟩ = some (.bool x.c.ho) ∧ w.cell? ⟨g, 5, none⟩ = some (.bool x.c.se) ∧
    w.cell? ⟨g, 6, none⟩ = some (.bool x.c.ht) ∧ w.cell? ⟨g, 7, none⟩ = some (.bool x.c.pe) ∧ w.cell? ⟨g, 8, none⟩ = some (.int .i64 x.c.ex) ∧ w.cell? ⟨g, 9, none⟩ = some (.int .i64 x.c.cr) ∧ w.cell? ⟨g, 10, none⟩ = some (.int .i64 x.c.ac) ∧ (∀ i, w.frozen? ⟨g, i, none⟩ = false) :=
  ⟨h.cell 0, h.cell 1, h.cell 2, h.cell 3, h.cell 4, h.cell 5, h.cell 6, h.cell 7, h.cell 8, h.cell 9, h.cell 10, h.free⟩
@[go_sem] theorem build_K3S (w : World) (l m n : List UInt8) : (mkK #[(0, .string (S l)), (1, .string (S m)), (2, .string (S n))]).run Try.prog w = .ok (vK ⟨l, m, n⟩) w := build_K3 w l m n
theorem ext_from (l : List UInt8) (k : Nat) : (S l).extract k l.length = S (l.drop k) := by
  have := extract_from (S l) k
  rw [S_size, S_toList] at this
  exact this
theorem rb_sets {w : World} {g : Nat} : ∀ (l : List Value) (i : Nat) {w' : World}, w.grownBy w' (some g) → w.grownBy (w'.setCells g i l) (some g)
  | [], _, _, h => h
  | v :: l, i, _, h => rb_sets l (i + 1) (rb_set h i v)
theorem ic_it {w : World} {g : Nat} {t : TypeId} {x : It} (h : Blk w g t (iC x)) : itAt w g 0 = some x := itAt_of (fun j v hv => by
  rw [Nat.zero_add, h.cell j]
  match j, hv with
  | 0, hv => exact hv
  | 1, hv => exact hv
  | 2, hv => exact hv
  | 3, hv => exact hv
  | 4, hv => exact hv
  | 5, hv => exact hv
  | 6, hv => exact hv
  | 7, hv => exact hv
  | 8, hv => exact hv
  | 9, hv => exact hv
  | 10, hv => exact hv
  | j + 11, hv => simp [cI, cK, cCk] at hv)
theorem ic_there {w : World} {g : Nat} {t : TypeId} {x : It} (h : Blk w g t (iC x)) : w.there g 0 3 := fun j hj => by
  rw [Nat.zero_add]
  refine ⟨?_, h.free j⟩
  rw [h.cell j]
  match j, hj with
  | 0, _ => rfl
  | 1, _ => rfl
  | 2, _ => rfl
  | j + 3, hj => omega
/-- What a line's item must meet to be told. -/
theorem rparse_fin {s : List UInt8} {now : Int} {x : It} {a0 a1 a2 a3 a4 a5 a6 : List UInt8} (h7 : splitL s 9 = [a0, a1, a2, a3, a4, a5, a6]) (hP : passedB s = false) (hx : x = parseX (splitL s 9) (clampT now)) :
    (lineO x == some s) = (parseO s now).isSome ∧ ((parseO s now).isSome = true → parseO s now = some x) := by
  by_cases h : lineO x = some s
  · have e : parseO s now = some x := by
      unfold parseO
      rw [hP, ← hx, h, h7]
      simp
    rw [e, h]
    simp
  · have e : parseO s now = none := by
      unfold parseO
      rw [← hx, if_neg]
      simp only [Bool.and_eq_true, beq_iff_eq]
      rintro ⟨_, _, h'⟩
      exact h h'
    rw [e]
    refine ⟨?_, fun h' => by cases h'⟩
    rw [beq_eq_false_iff_ne.2 h]; rfl
theorem rparse_num {s : List UInt8} {now : Int} {a0 a1 a2 a3 a4 a5 a6 : List UInt8} (h7 : splitL s 9 = [a0, a1, a2, a3, a4, a5, a6]) (h4 : (a4 == [45]) = false) (hn : numOk a4 = false) : (parseO s now).isSome = false := by
  cases e : parseO s now with
  | none => rfl
  | some x =>
    obtain ⟨_, _, e3, e4⟩ := parse_some e
    rw [e4] at e3
    obtain ⟨_, _, f4⟩ := parse_words e3 rfl
    rw [h7] at f4
    have f : a4 = [45] ∨ (numOk a4 = true ∧ textL (numV a4) = a4) := f4
    rcases f with f | f
    · rw [f] at h4; cases h4
    · rw [f.1] at hn; cases hn
set_option maxRecDepth 20000 in
set_option maxHeartbeats 4000000 in
theorem refParse_long (s : List UInt8) (now : Int) (w : World) (hs : s.length ≤ 100000) (hn1 : -9223372036854775808 ≤ now) (hn2 : now ≤ 9223372036854775807) (h7 : (splitL s 9).length = 7) (hP : passedB s = false) :
    Calls Try.prog 13 #[.string (S s), .int .i64 now] w fun e w' => e = .returned (refParseV s now) ∧ Below w.heap.size w w' := by
  have hz : (S s).size ≤ 4294967296 := by simp; omega
  have hB := bel_alloc (Below.refl w.heap.size w) (.cells (cI itZ).toArray 27)
  have hth : (w.alloc (.cells (cI itZ).toArray 27)).there w.heap.size 0 11 := by
    rw [there_alloc_new w _ _ _ _ _ rfl (by simp)]; trivial
  go_enter Try.func13, Try.ntmps13
  go_upto_region 1 with (fail)
  show Code.wp _ _ _ _ (w.alloc (.cells (cI itZ).toArray 27))
  have hgw : (w.alloc (.cells (cI itZ).toArray 27)).heap.size = w.heap.size + 1 := by simp
  generalize w.alloc (.cells (cI itZ).toArray 27) = w0 at *
  go_wp2_with fail
  refine (refSplit_any (S s) 9 _ hz).mono ?_
  rintro e w1 ⟨A, cp, rfl, hO, hb1⟩
  rw [S_toList]
  rw [S_toList] at hO
  have hR := Rd.of_own hO
  clear hO
  replace hB := bel_call hB hb1
  replace hth := it_there5 hth hb1 (by omega)
  have hwl : w.heap.size < w1.heap.size := by have := hb1.size; omega
  clear hb1 hgw
  obtain ⟨a0, a1, a2, a3, a4, a5, a6, hf7⟩ := list7 h7
  have h7' : (((splitL s 9).length : Int) != 7) = false := by rw [h7]; rfl
  rw [hf7] at hR h7'
  rw [hf7]
  clear h7
  have hf7H := Lib.hid hf7
  clear hf7
  obtain ⟨b0, o0, c0, hA, hb0, hs7⟩ := sev_rd hR
  cases hA
  clear hR
  go_wp2_with fail
  refine (refPassed_any s _ (by omega)).mono ?_
  rintro e w2 ⟨rfl, rfl⟩
  rw [hP]
  replace hP := Lib.hid hP
  go_upto_region 5 with (fail)
  have hK := Blk.new_ w1 27 (iC itZ)
  have hG := rb_bel (bel_alloc (Below.refl _ w1) (.cells (iC itZ) 27)) w1.heap.size
  have hs8 := sev_grown hs7 hG (by omega)
  replace hs7 := Lib.hid hs7
  show Code.wp _ _ _ _ (w1.alloc (.cells (iC itZ) 27))
  generalize w1.alloc (.cells (iC itZ) 27) = w2 at *
  have hne : b0 ≠ w1.heap.size := by omega
  have la : ∀ a ∈ [a0, a1, a2, a3, a4, a5, a6], a.length ≤ 100000 := fun a ha => by
    have := split_part s 9 a (by rw [hf7H.out]; exact ha)
    omega
  have la0 := la a0 (by simp)
  have la4 := la a4 (by simp)
  clear la
  obtain ⟨s0, s1, s2, s3, s4, s5, s6⟩ := hs8
  go_wp2_with fail
  refine (begins_any a0 hidT _ (by omega) (by decide)).mono ?_
  rintro e w3 ⟨rfl, rfl⟩
  rw [show Lib.hasPrefix a0 hidT = htX a0 from rfl]
  clear s0 s1 s2 s3 s4 s5 s6
  obtain ⟨x1, hx1⟩ : ∃ x1, x1 = (⟨itZ.k, { itZ.c with ht := htX a0 }⟩ : It) := ⟨_, rfl⟩
  obtain ⟨d1, hd1⟩ : ∃ d1, d1 = dX a0 := ⟨_, rfl⟩
  have ld1 : d1.length ≤ 100000 := by rw [hd1]; unfold dX; split <;> (try rw [List.length_drop]) <;> omega
  have lh : htX a0 = true → 10 ≤ a0.length := fun h => by
    have h' : Lib.hasPrefix a0 hidT = true := h
    rw [pre_take] at h'
    simp only [Bool.and_eq_true, decide_eq_true_eq] at h'
    exact h'.1
  replace lh := Lib.hid lh
  replace hx1 := Lib.hid hx1
  replace hd1 := Lib.hid hd1
  go_upto_if 28 with (fail)
  go_cut [8] (fun v wx => v = .string (S d1) ∧ Blk wx w1.heap.size 27 (iC x1) ∧ w1.grownBy wx (some w1.heap.size))
  case first =>
    obtain ⟨c0, c1, c2, c3, c4, c5, c6, c7, c8, c9, c10, cf⟩ := ic_cells hK
    have hgl := hK.lt
    have hKH := Lib.hid hK
    have hGH := Lib.hid hG
    clear hK hG
    cases eH : htX a0 with
    | false =>
      go_wp2
      go_meet
      refine ⟨?_, ?_, hGH.out⟩
      · rw [hd1.out]; unfold dX; rw [eH]; rfl
      · rw [hx1.out, eH]; exact hKH.out
    | true =>
      have l10 := lh.out eH
      have l10' : (10 : Int) ≤ a0.length := by omega
      go_wp2
      go_meet
      refine ⟨?_, ?_, rb_set hGH.out _ _⟩
      · rw [hd1.out, ext_from]; unfold dX; rw [eH]; rfl
      · rw [hx1.out, eH]; exact rb_put hKH.out 6 (.bool true)
  case rest =>
  obtain ⟨rfl, hK3, hG3⟩ := hcut
  clear hK hG lh
  generalize wc = w3 at *
  obtain ⟨x2, hx2⟩ : ∃ x2, x2 = (⟨x1.k, { x1.c with ho := true }⟩ : It) := ⟨_, rfl⟩
  have hK4 : Hid (Blk (w3.setCell ⟨w1.heap.size, 4, none⟩ (.bool true)) w1.heap.size 27 (iC x2)) := by rw [hx2]; exact rb_put hK3 4 (.bool true)
  have hG4 := Lib.hid (rb_set hG3 4 (.bool true))
  obtain ⟨c0, c1, c2, c3, c4, c5, c6, c7, c8, c9, c10, cf⟩ := ic_cells hK3
  have hgl := hK3.lt
  clear hK3 hG3
  replace hx2 := Lib.hid hx2
  go_upto_region 10 with (fail)
  clear c0 c1 c2 c3 c4 c5 c6 c7 c8 c9 c10 cf hgl
  show Code.wp _ _ _ _ (w3.setCell ⟨w1.heap.size, 4, none⟩ (.bool true))
  generalize w3.setCell ⟨w1.heap.size, 4, none⟩ (.bool true) = w4 at *
  replace hK4 := hK4.out
  replace hG4 := hG4.out
  go_wp2_with fail
  refine (begins_any d1 [46] _ (by omega) (by decide)).mono ?_
  rintro e w5 ⟨rfl, rfl⟩
  rw [show Lib.hasPrefix d1 [46] = wideX a0 by rw [hd1.out]; rfl]
  obtain ⟨x3, hx3⟩ : ∃ x3, x3 = (⟨x2.k, { x2.c with ho := !wideX a0 }⟩ : It) := ⟨_, rfl⟩
  obtain ⟨d2, hd2⟩ : ∃ d2, d2 = domX a0 := ⟨_, rfl⟩
  have lh : wideX a0 = true → 1 ≤ d1.length := fun h => by
    have h' : Lib.hasPrefix d1 [46] = true := by rw [hd1.out]; exact h
    rw [pre_take] at h'
    simp only [Bool.and_eq_true, decide_eq_true_eq] at h'
    exact h'.1
  replace lh := Lib.hid lh
  replace hx3 := Lib.hid hx3
  replace hd2 := Lib.hid hd2
  go_upto_if 36 with (fail)
  go_cut [8] (fun v wx => v = .string (S d2) ∧ Blk wx w1.heap.size 27 (iC x3) ∧ w1.grownBy wx (some w1.heap.size))
  case first =>
    obtain ⟨c0, c1, c2, c3, c4, c5, c6, c7, c8, c9, c10, cf⟩ := ic_cells hK4
    have hgl := hK4.lt
    have hKH := Lib.hid hK4
    have hGH := Lib.hid hG4
    clear hK4 hG4
    cases eH : wideX a0 with
    | false =>
      go_wp2
      go_meet
      refine ⟨?_, ?_, hGH.out⟩
      · rw [hd2.out, hd1.out]; unfold domX; rw [eH]; rfl
      · rw [hx3.out, eH]
        have e : (⟨x2.k, { x2.c with ho := !false }⟩ : It) = x2 := by rw [hx2.out]; rfl
        rw [e]; exact hKH.out
    | true =>
      have l10 := lh.out eH
      have l10' : (1 : Int) ≤ d1.length := by omega
      go_wp2
      go_meet
      refine ⟨?_, ?_, rb_set hGH.out _ _⟩
      · rw [ext_from, hd2.out, hd1.out]; unfold domX; rw [eH]; rfl
      · rw [hx3.out, eH]; exact rb_put hKH.out 4 (.bool false)
  case rest =>
  obtain ⟨rfl, hK5, hG5⟩ := hcut
  clear hK4 hG4 lh
  generalize wc = w5 at *
  go_upto_region 13 with (fail)
  obtain ⟨x4, hx4⟩ : ∃ x4, x4 = (⟨⟨a5, d2, a2⟩, x3.c⟩ : It) := ⟨_, rfl⟩
  replace hx4 := Lib.hid hx4
  go_cut [] (fun wx => Blk wx w1.heap.size 27 (iC x4) ∧ w1.grownBy wx (some w1.heap.size))
  case first =>
    obtain ⟨s0, s1, s2, s3, s4, s5, s6⟩ := sev_grown hs7.out hG5 hne
    obtain ⟨c0, c1, c2, c3, c4, c5, c6, c7, c8, c9, c10, cf⟩ := ic_cells hK5
    have hgl := hK5.lt
    have ht3 := ic_there hK5
    have hKH := Lib.hid hK5
    have hGH := Lib.hid hG5
    clear hK5 hG5
    go_region
    all_goals go_wp2
    all_goals go_meet
    all_goals refine ⟨?_, g_trans (rb_sets _ 0 hGH.out) (rb_bel (Below.refl _ _).drew _)⟩
    all_goals rw [hx4.out]
    all_goals exact Blk.below (blk_laid w1.heap.size 27 (cK ⟨a5, d2, a2⟩) 0 (iC x3) _ hKH.out) (Below.refl _ _).drew
  case rest =>
  obtain ⟨hK6, hG6⟩ := hcut
  clear hK5 hG5
  generalize wc = w6 at *
  obtain ⟨x5, hx5⟩ : ∃ x5, x5 = (⟨x4.k, { x4.c with v := a6, se := a3 == truthL true, ex := 1099511627776 }⟩ : It) := ⟨_, rfl⟩
  have hK7 : Hid (Blk (((w6.setCell ⟨w1.heap.size, 3, none⟩ (.string (S a6))).setCell ⟨w1.heap.size, 5, none⟩ (.bool (a3 == truthL true))).setCell ⟨w1.heap.size, 8, none⟩ (.int .i64 1099511627776)) w1.heap.size 27 (iC x5)) := by rw [hx5]; exact rb_put (rb_put (rb_put hK6 3 _) 5 _) 8 _
  have hG7 := Lib.hid (rb_set (rb_set (rb_set hG6 3 (.string (S a6))) 5 (.bool (a3 == truthL true))) 8 (.int .i64 1099511627776))
  obtain ⟨s0, s1, s2, s3, s4, s5, s6⟩ := sev_grown hs7.out hG6 hne
  obtain ⟨c0, c1, c2, c3, c4, c5, c6, c7, c8, c9, c10, cf⟩ := ic_cells hK6
  have hgl := hK6.lt
  clear hK6 hG6
  replace hx5 := Lib.hid hx5
  go_upto_region 17 with (fail)
  clear c0 c1 c2 c3 c4 c5 c6 c7 c8 c9 c10 cf hgl s0 s1 s2 s3 s4 s5 s6
  show Code.wp _ _ _ _ (((w6.setCell ⟨w1.heap.size, 3, none⟩ (.string (S a6))).setCell ⟨w1.heap.size, 5, none⟩ (.bool (a3 == truthL true))).setCell ⟨w1.heap.size, 8, none⟩ (.int .i64 1099511627776))
  generalize ((w6.setCell ⟨w1.heap.size, 3, none⟩ (.string (S a6))).setCell ⟨w1.heap.size, 5, none⟩ (.bool (a3 == truthL true))).setCell ⟨w1.heap.size, 8, none⟩ (.int .i64 1099511627776) = w7 at *
  replace hK7 := hK7.out
  replace hG7 := hG7.out
  have hX5 : Hid (x5 = ⟨⟨a5, domX a0, a2⟩, ⟨a6, !wideX a0, a3 == truthL true, htX a0, false, 1099511627776, 0, 0⟩⟩) := by
    show _ = _
    rw [hx5.out, hx4.out, hx3.out, hx2.out, hx1.out, hd2.out]
    rfl
  clear hx5 hx4 hx3 hx2 hx1 hd2 hd1
  obtain ⟨n1, n2⟩ := numV_bd a4
  obtain ⟨num, hnum⟩ : ∃ n, n = numV a4 := ⟨_, rfl⟩
  obtain ⟨nok, hnok⟩ : ∃ q, q = numOk a4 := ⟨_, rfl⟩
  rw [← hnum] at n1 n2
  have hoff : Hid (a4 ≠ [45] → nok = false → refParseV s now = .tuple #[vI itZ, .bool false]) := fun h1 h2 => parse_off (rparse_num hf7H.out (by simpa using h1) (by rw [← hnok]; exact h2))
  replace hnum := Lib.hid hnum
  replace hnok := Lib.hid hnok
  have hB7 := Lib.hid (bel_grown hB hG7 (by omega) (by omega))
  have hth7 := Lib.hid (there_grown hth hG7 hwl (by omega))
  replace hB := Lib.hid hB
  replace hth := Lib.hid hth
  obtain ⟨x6, hx6⟩ : ∃ x6, x6 = (⟨x5.k, { x5.c with pe := !(a4 == [45]), ex := if a4 == [45] then 1099511627776 else numV a4 }⟩ : It) := ⟨_, rfl⟩
  replace hx6 := Lib.hid hx6
  have hm4 : (S a4).size ≤ maxLen := by unfold maxLen; simp; omega
  obtain ⟨s0, s1, s2, s3, s4, s5, s6⟩ := sev_grown hs7.out hG7 hne
  clear s0 s1 s2 s3 s5 s6
  go_upto_if 66 with (fail)
  go_cut [] (fun wx => Blk wx w1.heap.size 27 (iC x6) ∧ w1.grownBy wx (some w1.heap.size))
  case first =>
    obtain ⟨c0, c1, c2, c3, c4, c5, c6, c7, c8, c9, c10, cf⟩ := ic_cells hK7
    have hgl := hK7.lt
    have hKH := Lib.hid hK7
    have hGH := Lib.hid hG7
    clear hK7 hG7
    cases e45 : (a4 == [45]) with
    | true =>
      have e6 : Hid (x6 = x5) := by
        show _ = _
        rw [hx6.out, hX5.out, e45]; rfl
      clear hoff hnum hnok
      go_wp2
      go_meet
      rw [e6.out]
      exact ⟨hKH.out, hGH.out⟩
    | false =>
      have hnum2 := Lib.hid hnum.out.symm
      have hnok2 := Lib.hid hnok.out.symm
      go_wp2_with fail
      refine (refNumber_any (S a4) _ hm4).mono ?_
      rintro e w8 ⟨rfl, rfl⟩
      rw [S_toList, hnum2.out, hnok2.out]
      have h45 : a4 ≠ [45] := fun e => by rw [e] at e45; cases e45
      cases nok with
      | false =>
        have hF := Lib.hid (hoff.out h45 rfl)
        have hth8 := hth7.out
        have hB8 := hB7.out
        clear hoff hnum hnok hnum2 hnok2 h45
        go_upto_region 20 with (fail)
        repeat go_step
        refine ret_item2 (x := noneI k0) Try.results13 rfl rfl (itAt_setCells _ hth8) ⟨?_, below_setCells _ _ _ hB8 (Nat.le_refl _)⟩
        rw [hF.out]
        rfl
      | true =>
        have e6 : Hid (x6 = ⟨x5.k, { x5.c with ex := num, pe := true }⟩) := by
          show _ = _
          rw [hx6.out, e45, hnum2.out]; rfl
        clear hoff hnum hnok hnum2 hnok2 h45
        go_wp2
        go_meet
        rw [e6.out]
        exact ⟨rb_put (rb_put hKH.out 8 (.int .i64 num)) 7 (.bool true), rb_set (rb_set hGH.out 8 _) 7 _⟩
  case rest =>
  obtain ⟨hK8, hG8⟩ := hcut
  clear hK7 hG7 s4 hoff hnok hB7 hth7 n1 n2 hm4
  generalize wc = w8 at *
  obtain ⟨x7, hx7⟩ : ∃ x7, x7 = agedX x6 (clampT now) := ⟨_, rfl⟩
  have hX7 : Hid (x7 = parseX (splitL s 9) (clampT now)) := by
    show _ = _
    rw [hx7, hx6.out, hX5.out, hf7H.out]; rfl
  have hK9 : Hid (Blk ((w8.setCell ⟨w1.heap.size, 9, none⟩ (.int .i64 (clampT now))).setCell ⟨w1.heap.size, 10, none⟩ (.int .i64 (clampT now))) w1.heap.size 27 (iC x7)) := by rw [hx7]; exact rb_put (rb_put hK8 9 (.int .i64 (clampT now))) 10 (.int .i64 (clampT now))
  have hG9 := Lib.hid (rb_set (rb_set hG8 9 (.int .i64 (clampT now))) 10 (.int .i64 (clampT now)))
  clear hx6 hX5 hx7
  obtain ⟨c0, c1, c2, c3, c4, c5, c6, c7, c8, c9, c10, cf⟩ := ic_cells hK8
  have hgl := hK8.lt
  clear hK8 hG8
  go_upto_region 25 with (fail)
  clear c0 c1 c2 c3 c4 c5 c6 c7 c8 c9 c10 cf hgl
  show Code.wp _ _ _ _ ((w8.setCell ⟨w1.heap.size, 9, none⟩ (.int .i64 (clampT now))).setCell ⟨w1.heap.size, 10, none⟩ (.int .i64 (clampT now)))
  generalize (w8.setCell ⟨w1.heap.size, 9, none⟩ (.int .i64 (clampT now))).setCell ⟨w1.heap.size, 10, none⟩ (.int .i64 (clampT now)) = w9 at *
  replace hK9 := hK9.out
  replace hG9 := hG9.out
  have hMd : MdI x7 := by
    rw [hX7.out, hf7H.out]
    exact mdI_parse hf7H.out hs
  have hI9 := ic_it hK9
  go_wp2_with fail
  refine (refLine_any x7 _ hMd).mono ?_
  rintro e w10 ⟨rfl, hb10⟩
  have hI10 := itAt_later hI9 hb10
  have hG10 := g_trans hG9 (rb_bel hb10 w1.heap.size)
  have hth10 := there_grown hth.out hG10 hwl (by omega)
  have hB10 := bel_grown hB.out hG10 (by omega) (by omega)
  have hfin := Lib.hid (rparse_fin hf7H.out hP.out hX7.out)
  clear hK9 hG9 hI9 hG10 hth hB hX7 hb10
  cases hl : lineO x7 with
  | none =>
    have hF := Lib.hid (parse_off (s := s) (now := now) (by rw [← hfin.out.1, hl]; rfl))
    have hV : Hid (refLineV x7 = .tuple #[.string (S []), .bool false]) := by show _ = _; unfold refLineV; rw [(lineS_none hl).1, hl]; rfl
    clear hfin hl
    rw [hV.out]
    go_upto_region 27 with (fail)
    repeat go_step
    refine ret_item2 (x := noneI k0) Try.results13 rfl rfl (itAt_setCells _ hth10) ⟨?_, below_setCells _ _ _ hB10 (Nat.le_refl _)⟩
    rw [hF.out]
    rfl
  | some t =>
    have hV : Hid (refLineV x7 = .tuple #[.string (S t), .bool true]) := by show _ = _; unfold refLineV; rw [(lineS_some hl).1, hl]; rfl
    by_cases ht : t = s
    · subst ht
      have hO : (parseO t now).isSome = true := by rw [← hfin.out.1, hl]; simp
      have hF := Lib.hid (hfin.out.2 hO)
      clear hfin hO hl
      rw [hV.out]
      go_upto_region 28 with (fail)
      repeat go_step
      refine ret_item2 (x := x7) Try.results13 rfl rfl (itAt_setCells _ hth10) ⟨?_, below_setCells _ _ _ hB10 (Nat.le_refl _)⟩
      unfold refParseV parseI
      rw [hF.out]
      rfl
    · have ht1 : (t == s) = false := by simpa using ht
      have ht2 : (t != s) = true := by simpa using ht
      have hF := Lib.hid (parse_off (s := s) (now := now) (by rw [← hfin.out.1, hl]; simp [ht1]))
      clear hfin hl ht
      rw [hV.out]
      go_upto_region 27 with (fail)
      repeat go_step
      refine ret_item2 (x := noneI k0) Try.results13 rfl rfl (itAt_setCells _ hth10) ⟨?_, below_setCells _ _ _ hB10 (Nat.le_refl _)⟩
      rw [hF.out]
      rfl
/-- A line's item, the document's. -/
theorem refParse_any (s : List UInt8) (now : Int) (w : World) (hs : s.length ≤ 100000) (hn1 : -9223372036854775808 ≤ now) (hn2 : now ≤ 9223372036854775807) :
    Calls Try.prog 13 #[.string (S s), .int .i64 now] w fun e w' => e = .returned (refParseV s now) ∧ Below w.heap.size w w' := by
  by_cases h7 : (splitL s 9).length = 7
  · cases hP : passedB s with
    | true => exact refParse_short s now w hs (.inr hP)
    | false => exact refParse_long s now w hs hn1 hn2 h7 hP
  · exact refParse_short s now w hs (.inl h7)
end Go.Proofs.Ytgfoaopfdpclhaa
namespace Go.Proofs.Ytgfoaopfdpclhaa
open Go.RowKit
set_option linter.unusedVariables false

theorem readL_ne {now : Int} {out : List It} {n : Nat} {a : List UInt8} {q : List (List UInt8)} (hq : q ≠ []) : readL now out n (a :: q) = if passedB a then readL now out (n + 1) q else match parseO a now with
    | none => ([], n, 1)
    | some x => if hasK out x.k then ([], n, 11) else readL now (putV out x) (n + 1) q := by
  cases q with
  | nil => exact absurd rfl hq
  | cons q r =>
    rw [readL]
    cases passedB a <;> cases parseO a now <;> rfl
set_option maxRecDepth 20000 in
set_option maxHeartbeats 8000000 in
theorem refRead46_any (s : List UInt8) (now : Int) (w : World) (hs : s.length ≤ 100000) (hq : (splitL s 10).length ≤ 90000) (hn1 : -9223372036854775808 ≤ now) (hn2 : now ≤ 9223372036854775807) :
    Calls Try.prog 20 #[.string (S s), .int .i64 now] w (ReadPost (readL now [] 1 (splitL s 10)) w) := by
  obtain ⟨R, hR⟩ : ∃ R, R = readL now [] 1 (splitL s 10) := ⟨_, rfl⟩
  rw [← hR]
  have hz : (S s).size ≤ 4294967296 := by simp; omega
  go_enter Try.func20, Try.ntmps20
  go_wp2_with fail
  refine (refSplit_any (S s) 10 _ hz).mono ?_
  rintro e w1 ⟨A, cp, rfl, hO, hb1⟩
  rw [S_toList] at hO ⊢
  have hLs : ∀ p ∈ splitL s 10, p.length ≤ 100000 := fun p hp => by have := split_part s 10 p hp; omega
  have hLn := split_ne s 10
  generalize splitL s 10 = L at *
  have hLp : 1 ≤ L.length := by
    cases L with
    | nil => exact absurd rfl hLn
    | cons a r => simp
  have hR0 := Lib.hid hR.symm
  clear hR hs hz hLn
  have hRd := Rd.of_own hO
  clear hO
  have hown0 : (w1.alloc (.cells #[] 27)).ownsRow w.heap.size 27 11 (.slice (some ⟨w1.heap.size, 0, none⟩) 0 0) 0 [] := own_low (World.ownsRow_lit w1 #[] 0 (Nat.le_refl _) (by unfold maxLen; omega) rfl) hb1.size
  have hB0 := bel_alloc hb1 (.cells #[] 27)
  have hRd0 := hRd.alloc (.cells #[] 27)
  clear hRd hb1
  go_wp2_with fail
  generalize (w1.alloc (.cells #[] 27)) = W at *
  obtain ⟨hca, hcb⟩ := hRd0.cap
  unfold maxLen at hcb
  go_loopw [8, 9] (fun va i wr => ∃ (j : Nat) (out : List It), i = .int .i64 j ∧ j + 1 ≤ L.length ∧ Hid (readL now out (j + 1) (L.drop j) = R) ∧ wr.ownsRow w.heap.size 27 11 va out.length (out.flatMap cI) ∧ out.length ≤ j ∧ RisK (keysL out) ∧ Below w.heap.size w wr ∧ Rd wr 1 (.slice A L.length cp) L.length (L.map strV)) (fun _ i _ => L.length - (intOf i).toNat)
  case atStart => exact ⟨0, [], rfl, by omega, hR0, hown0, Nat.zero_le _, List.Pairwise.nil, hB0, hRd0⟩
  case round =>
    obtain ⟨j, out, rfl, hj, hR, ho, hol, hris, hbel, hRd⟩ := hrel
    clear hR0 hown0 hB0 hRd0
    obtain ⟨A1, c1, rfl⟩ := own_form ho
    have hj0 : (0 : Int) ≤ (j : Int) := by omega
    obtain ⟨b, off, rfl, hb, hx⟩ := hRd.at_ (by omega)
    have hlt : j < L.length := by omega
    have hji : (j : Int) < L.length := by omega
    have hcj : wr.cell? ⟨b, off + j, none⟩ = some (.string (S L[j])) := by
      rw [hx j (by simp; omega), List.getElem?_map, List.getElem?_eq_getElem hlt]; rfl
    clear hx
    by_cases hlt2 : j + 1 < L.length
    · have hlti : (j : Int) + 1 < L.length := by omega
      have hne : L.drop (j + 1) ≠ [] := fun e => by
        have := congrArg List.length e
        rw [List.length_drop] at this; simp at this; omega
      rw [List.drop_eq_getElem_cons hlt, readL_ne hne] at hR
      have hlj := hLs _ (List.getElem_mem hlt)
      generalize hp : L[j] = p at *
      clear hp hne
      go_wp2_with fail
      refine (refPassed_any p _ (by omega)).mono ?_
      rintro e w2 ⟨rfl, rfl⟩
      cases hpa : passedB p with
      | true =>
        rw [hpa, if_pos rfl] at hR
        clear hpa
        go_wp2
        go_roundw
        case rel => exact ⟨j + 1, out, by go_num, by omega, hR, ho, by omega, hris, hbel, hRd⟩
        case measure => simp [intOf]; omega
      | false =>
        rw [hpa, if_neg (by simp)] at hR
        clear hpa
        go_wp2_with fail
        refine (refParse_any p now _ hlj hn1 hn2).mono ?_
        rintro e w3 ⟨rfl, hb3⟩
        have hB3 := bel_call hbel hb3
        have ho3 := own_below ho hb3
        have hRd3 := hRd.below hb3
        clear hbel ho hRd hcj hb hb3
        unfold refParseV
        cases hpo : parseO p now with
        | none =>
          rw [hpo] at hR
          rw [(parse_none (s := p) (now := now) (by rw [hpo]; rfl)).1]
          clear hpo
          have hB4 := Lib.hid (bel_alloc hB3 (.cells (cI itZ).toArray 27))
          clear hB3 ho3 hRd3
          go_wp2
          go_ret3
          exact read_none (n := j + 1) hR.out.symm hB4.out
        | some x =>
          rw [hpo] at hR
          rw [(parse_is hpo).1]
          clear hpo
          have hB4 := bel_alloc hB3 (.cells (cI x).toArray 27)
          have ho4 := ho3.alloc (.cells (cI x).toArray 27)
          have hRd4 := hRd3.alloc (.cells (cI x).toArray 27)
          have hx4 := itAt_new w3 x 27 w3.heap.size rfl
          have hR4 := Rd.of_own ho4
          clear hB3 ho3 hRd3
          go_wp2_with fail
          refine (refFindI_any A1 _ c1 out x.k _ hR4).mono ?_
          rintro e w5 ⟨rfl, hb5⟩
          have hB5 := bel_alloc (bel_call hB4 hb5) (.cells (cI (itOr (findI out x.k))).toArray 27)
          have hR5 := (hR4.below hb5).alloc (.cells (cI (itOr (findI out x.k))).toArray 27)
          have hRd5 := (hRd4.below hb5).alloc (.cells (cI (itOr (findI out x.k))).toArray 27)
          have hx5 := itAt_later (itAt_later hx4 hb5) (bel_alloc (Below.refl _ _) (.cells (cI (itOr (findI out x.k))).toArray 27))
          clear hB4 ho4 hx4 hR4 hRd4 hb5
          rw [show (findI out x.k).isSome = hasK out x.k from rfl]
          generalize itOr (findI out x.k) = y at *
          cases hk : hasK out x.k with
          | true =>
            have hF : Hid (R = ([], j + 1, 11)) := by show _ = _; rw [← hR.out]; show (if hasK out x.k = true then _ else _) = _; rw [hk]; rfl
            clear hR hk
            go_wp2
            go_ret3
            exact read_none (n := j + 1) hF.out hB5
          | false =>
            have hF : Hid (readL now (putI out x) (j + 1 + 1) (L.drop (j + 1)) = R) := by show _ = _; rw [← hR.out, ← putV_putI x hris]; show _ = (if hasK out x.k = true then _ else _); rw [hk]; rfl
            clear hR hk
            go_wp2_with fail
            refine (put25_any A1 _ c1 out x _ hR5 (by omega)).mono ?_
            rintro e w6 ⟨A6, c6, rfl, ho6, hb6⟩
            have hB6 := bel_call hB5 hb6
            have ho6' := own_low ho6 hB5.size
            have hRd6 := hRd5.below hb6
            have hle : (putI out x).length ≤ j + 1 := by rw [← putV_putI x hris]; have := putV_le out x; omega
            have hris2 := put_ris x hris
            clear hB5 hR5 hx5 ho6 hb6 hris
            go_wp2
            go_roundw
            case rel => exact ⟨j + 1, putI out x, by go_num, by omega, hF, ho6', hle, hris2, hB6, hRd6⟩
            case measure => simp [intOf]; omega
    · obtain hje : L.length = j + 1 := by omega
      have hdr : L.drop (j + 1) = [] := List.drop_eq_nil_of_le (by omega)
      rw [List.drop_eq_getElem_cons hlt, hdr] at hR
      have hR2 : Hid ((if L[j] = [] then (out, 0, 0) else ([], j + 1, 2)) = R) := by
        show _ = _
        rw [← hR.out, readL]
      clear hR hdr
      have hjn : ¬ ((j : Int) + 1 < L.length) := by omega
      have hjl : (L.length : Int) - 1 = j := by omega
      have hl1 : (0 : Int) ≤ (L.length : Int) - 1 := by omega
      generalize hp : L[j] = p at *
      clear hp
      by_cases h0 : p = []
      · subst h0
        have hF : Hid (R = (out, 0, 0)) := by show _ = _; rw [← hR2.out, if_pos rfl]
        clear hR2
        go_wp2
        go_ret3
        rw [hF.out]
        exact ⟨A1, c1, rfl, ho, hbel⟩
      · have hF : Hid (R = ([], j + 1, 2)) := by show _ = _; rw [← hR2.out, if_neg h0]
        have e1 : (p == []) = false := by simpa using h0
        clear hR2 h0
        go_wp2
        go_ret3
        exact read_none (n := j + 1) hF.out hbel
end Go.Proofs.Ytgfoaopfdpclhaa
namespace Go.Proofs.Ytgfoaopfdpclhaa
open Go.RowKit
set_option linter.unusedVariables false

def ltI (x : It) : Bool := decide (x.k.n.length ≤ 2000) && (decide (x.k.d.length ≤ 2000) && (decide (x.k.p.length ≤ 2000) && decide (x.c.v.length ≤ 2000)))
def ltL (l : List It) : Bool := decide (l.length ≤ 20) && l.all ltI
set_option maxRecDepth 20000 in
set_option maxHeartbeats 2000000 in
theorem light_any (A : Option Addr) (c : Nat) (l : List It) (w : World) (hl : l.length ≤ maxLen) (h : Rd w 11 (.slice A l.length c) l.length (l.flatMap cI)) :
    Calls Try.prog 7 #[.slice A l.length c] w fun e w' => e = .returned (.bool (ltL l)) ∧ Below w.heap.size w w' := by
  by_cases h20 : (20 : Int) < l.length
  · have hf := Lib.hid (show ltL l = false by unfold ltL; rw [decide_eq_false (by omega)]; rfl)
    go_enter Try.func7, Try.ntmps7
    go_wp2
    go_ret
    exact ⟨ret_bool hf.out.symm, Below.refl _ _⟩
  · have h20' : (l.length : Int) ≤ 20 := by omega
    clear h20
    have hf := Lib.hid (show ltL l = l.all ltI by unfold ltL; rw [decide_eq_true (by omega)]; rfl)
    go_enter Try.func7, Try.ntmps7
    go_wp2_with fail
    go_loopw [3] (fun i wr => ∃ k : Nat, k ≤ l.length ∧ i = .int .i64 k ∧ Below w.heap.size w wr ∧ (l.take k).all ltI = true) (fun i _ => l.length - (intOf i).toNat)
    case atStart => exact ⟨0, Nat.zero_le _, rfl, Below.refl _ _, rfl⟩
    case round =>
      obtain ⟨k, hk, rfl, hbel, hall⟩ := hrel
      have hk0 : (0 : Int) ≤ (k : Int) := by omega
      by_cases hlt : k < l.length
      · have hj : (k : Int) < (l.length : Int) := by omega
        obtain ⟨b, off, rfl, hb, hx⟩ := (h.below hbel).items hlt
        obtain ⟨hxi, hxk⟩ := hx k hlt
        clear hx
        obtain ⟨p0, p1, p2⟩ := ky_cells hxk
        obtain ⟨p3, _, _⟩ := ck_cells2 (ckAt_it hxi)
        by_cases hg : ltI l[k] = true
        · have hg' := hg
          unfold ltI at hg'
          simp only [Bool.and_eq_true, decide_eq_true_eq] at hg'
          obtain ⟨g1, g2, g3, g4⟩ := hg'
          have i1 : (l[k].k.n.length : Int) ≤ 2000 := by omega
          have i2 : (l[k].k.d.length : Int) ≤ 2000 := by omega
          have i3 : (l[k].k.p.length : Int) ≤ 2000 := by omega
          have i4 : (l[k].c.v.length : Int) ≤ 2000 := by omega
          have hn := Lib.hid (show (l.take (k + 1)).all ltI = true by rw [List.take_succ_eq_append_getElem hlt, List.all_append, hall]; simp [hg])
          clear hg g1 g2 g3 g4 hall
          go_wp2
          go_roundw
          case rel => exact ⟨k + 1, by omega, by go_num, hbel, hn.out⟩
          case measure => simp [intOf]; omega
        · have hF := Lib.hid (show l.all ltI = false by
            rw [Bool.eq_false_iff]
            intro h'
            exact hg (List.all_eq_true.1 h' _ (List.getElem_mem hlt)))
          by_cases i1 : (l[k].k.n.length : Int) ≤ 2000
          · by_cases i2 : (l[k].k.d.length : Int) ≤ 2000
            · by_cases i3 : (l[k].k.p.length : Int) ≤ 2000
              · have i4 : (2000 : Int) < l[k].c.v.length := by
                  unfold ltI at hg
                  simp only [Bool.and_eq_true, decide_eq_true_eq] at hg
                  omega
                go_wp2
                go_ret
                exact ⟨ret_bool (by rw [hf.out, hF.out]), hbel⟩
              · replace i3 : (2000 : Int) < l[k].k.p.length := by omega
                go_wp2
                go_ret
                exact ⟨ret_bool (by rw [hf.out, hF.out]), hbel⟩
            · replace i2 : (2000 : Int) < l[k].k.d.length := by omega
              go_wp2
              go_ret
              exact ⟨ret_bool (by rw [hf.out, hF.out]), hbel⟩
          · replace i1 : (2000 : Int) < l[k].k.n.length := by omega
            go_wp2
            go_ret
            exact ⟨ret_bool (by rw [hf.out, hF.out]), hbel⟩
      · obtain rfl : k = l.length := by omega
        have hn := Lib.hid (show l.all ltI = true by rwa [List.take_length] at hall)
        clear hall
        go_wp2
        go_ret
        exact ⟨ret_bool (by rw [hf.out, hn.out]), hbel⟩
end Go.Proofs.Ytgfoaopfdpclhaa
namespace Go.Proofs.Ytgfoaopfdpclhaa
open Go.RowKit
set_option linter.unusedVariables false

set_option maxHeartbeats 1000000 in
theorem sameI_any (A1 A2 : Option Addr) (n1 c1 n2 c2 : Nat) (l1 l2 : List It) (w : World) (h1 : Rd w 11 (.slice A1 n1 c1) n1 (l1.flatMap cI)) (h2 : Rd w 11 (.slice A2 n2 c2) n2 (l2.flatMap cI)) :
    Calls Try.prog 19 #[.slice A1 n1 c1, .slice A2 n2 c2] w fun e w' => e = .returned (.bool (decide (l1 = l2))) ∧ Below w.heap.size w w' := by
  have hl1 := h1.rows (sz := 11) (f := cI) (fun q => rfl) (by decide)
  have hl2 := h2.rows (sz := 11) (f := cI) (fun q => rfl) (by decide)
  have hcap1 := h1.cap
  have hcap2 := h2.cap
  unfold maxLen at hcap1 hcap2
  obtain ⟨hca1, hcb1⟩ := hcap1
  obtain ⟨hca2, hcb2⟩ := hcap2
  subst hl1 hl2
  by_cases hne : l1.length = l2.length
  · have hne1 : ((l1.length : Int) != l2.length) = false := by rw [bne_eq_false_iff_eq]; omega
    have hle : l1.length ≤ l2.length ∧ l2.length ≤ l1.length := by omega
    have hE := Lib.hid hne
    clear hne
    obtain ⟨hle1, hle2⟩ := hle
    go_enter Try.func19, Try.ntmps19
    go_wp2
    go_loopw [5] (fun i wr => ∃ k : Nat, k ≤ l1.length ∧ i = .int .i64 k ∧ Below w.heap.size w wr ∧ Hid (∀ j (hj : j < l1.length) (hj' : j < l2.length), j < k → l1[j] = l2[j])) (fun i _ => l1.length - (intOf i).toNat)
    case atStart => exact ⟨0, Nat.zero_le _, rfl, Below.refl _ _, fun j _ _ hj => absurd hj (by omega)⟩
    case round =>
      obtain ⟨k, hk, rfl, hbel, hall⟩ := hrel
      by_cases hlt : k < l1.length
      · have hlt2 : k < l2.length := by omega
        have hlti : (k : Int) < l1.length := by omega
        have hlti2 : (k : Int) < l2.length := by omega
        obtain ⟨b1, o1, rfl, hb1, hx1⟩ := (h1.below hbel).items hlt
        obtain ⟨b2, o2, rfl, hb2, hx2⟩ := (h2.below hbel).items hlt2
        have hxa := (hx1 k hlt).1
        have hxb := (hx2 k hlt2).1
        clear hx1 hx2
        go_wp2
        by_cases he : l1[k] = l2[k]
        · have heb : decide (l1[k] = l2[k]) = true := decide_eq_true he
          have hS := Lib.hid he
          clear he
          go_quiet (fail)
          have hbel' := below_drews hbel nq
          clear hxa hxb hb1 hb2 hbel
          generalize wr.drewN nq = wq at *
          go_wp2
          go_roundw
          case rel => exact ⟨k + 1, by omega, by go_num, hbel', fun j hj hj' hjk => by
            by_cases e : j = k
            · subst e; exact hS.out
            · exact hall.out j hj hj' (by omega)⟩
          case measure => simp [intOf]; omega
        · have heb : decide (l1[k] = l2[k]) = false := decide_eq_false he
          have hD : Hid (¬ l1 = l2) := fun e => he (by subst e; rfl)
          clear he
          go_quiet (fail)
          have hbel' := below_drews hbel nq
          clear hxa hxb hb1 hb2 hbel
          generalize wr.drewN nq = wq at *
          go_wp2
          go_ret
          exact ⟨ret_bool (decide_eq_false hD.out).symm, hbel'⟩
      · obtain rfl : k = l1.length := by omega
        go_wp2
        go_ret
        exact ⟨ret_bool (decide_eq_true (List.ext_getElem hE.out fun j a b => hall.out j a b a)).symm, hbel⟩
  · have hne1 : ((l1.length : Int) != l2.length) = true := by rw [bne_iff_ne]; omega
    go_enter Try.func19, Try.ntmps19
    go_wp2
    go_ret
    refine ⟨ret_bool (Eq.symm (decide_eq_false ?_)), Below.refl _ _⟩
    intro e
    exact hne (by rw [e])

theorem back_take (l : List Ch) (k : Nat) (h : k < l.length) : (backL (l.take (k + 1))).flatMap cC = (backL (l.take k)).flatMap cC ++ cC (backC l[k]) := by
  unfold backL
  rw [List.take_succ_eq_append_getElem h, List.map_append, List.flatMap_append]
  simp
theorem rdAt_grown {α : Type} {f : α → List Value} {w w' : World} {row : Option Nat} (hg : w.grownBy w' row) {b o : Nat} {x : α} (hx : rdAt f w b o = some x) (hb : b < w.heap.size) (hne : some b ≠ row) : rdAt f w' b o = some x :=
  (rdAt_cells fun o => by unfold World.cell?; rw [hg.block b hb hne]).trans hx
end Go.Proofs.Ytgfoaopfdpclhaa
namespace Go.Proofs.Ytgfoaopfdpclhaa
open Go.RowKit Go.Deep Go.WideShapes
set_option linter.unusedVariables false

theorem i64_wfV {n : Int} (h : (Lit.int .i64 n).wf = true) : -9223372036854775808 ≤ n ∧ n ≤ 9223372036854775807 := by
  simp [Lit.wf, IntKind.min, IntKind.max, IntKind.signed, IntKind.bits] at h
  exact ⟨by omega, by omega⟩
theorem mdI_parseOV {s : List UInt8} {now : Int} {x : It} (hs : s.length ≤ 100000) (h : parseO s now = some x) : MdI x := by
  obtain ⟨h7, _, _, e⟩ := parse_some h
  obtain ⟨a0, a1, a2, a3, a4, a5, a6, hf⟩ := list7 h7
  rw [e, hf]
  exact mdI_parse hf hs
theorem split_cnt (s : List UInt8) : (splitL s 10).length ≤ s.length + 1 := by
  have h := split_sum 10 s
  have : ∀ l : List (List UInt8), l.length ≤ (l.map fun p => p.length + 1).sum := by
    intro l
    induction l with
    | nil => simp
    | cons a r ih => simp; omega
  have := this (splitL s 10)
  omega
/-- What is read has middling texts, and is not more than the text has parts. -/
theorem read_md (now : Int) : ∀ (p : List (List UInt8)) (out : List It) (n : Nat), (∀ q ∈ p, q.length ≤ 100000) → (∀ x ∈ out, MdI x) →
    (∀ x ∈ (readL now out n p).1, MdI x) ∧ (readL now out n p).1.length ≤ out.length + p.length
  | [], out, n, _, h => by simp only [readL]; exact ⟨h, by omega⟩
  | [t], out, n, _, h => by
    rw [readL]
    split
    · exact ⟨h, Nat.le_add_right _ _⟩
    · exact ⟨(fun x hx => by cases hx), Nat.zero_le _⟩
  | t :: q :: r, out, n, hp, h => by
    have hp2 : ∀ z ∈ q :: r, z.length ≤ 100000 := fun z hz => hp z (List.mem_cons_of_mem _ hz)
    rw [readL]
    split
    · obtain ⟨a, b⟩ := read_md now (q :: r) out (n + 1) hp2 h
      exact ⟨a, by rw [List.length_cons]; omega⟩
    · cases ho : parseO t now with
      | none => exact ⟨(fun x hx => by cases hx), Nat.zero_le _⟩
      | some x =>
        simp only
        split
        · exact ⟨(fun x hx => by cases hx), Nat.zero_le _⟩
        · obtain ⟨a, b⟩ := read_md now (q :: r) (putV out x) (n + 1) hp2 (fun y hy => by
            rcases mem_putV hy with hy | hy
            · exact h y hy
            · rw [hy]; exact mdI_parseOV (hp t (by simp)) ho)
          have := putV_le out x
          exact ⟨a, by rw [List.length_cons]; omega⟩
set_option maxRecDepth 100000 in
set_option maxHeartbeats 8000000 in
theorem exportReads0 (s : List UInt8) (now : Int) (w : World) (hn1 : -9223372036854775808 ≤ now) (hn2 : now ≤ 9223372036854775807) :
    Calls Try.prog 6 #[.string (S s), .int .i64 now] w fun e w' => e = .returned (.bool true) ∧ Below w.heap.size w w' := by
  by_cases hs : (8000 : Int) < s.length
  · go_enter Try.func6, Try.ntmps6
    go_wp2_with (go_at_call 8; refine (awake_any _).mono ?_; rintro e w99 ⟨rfl, hb99⟩)
    go_ret
    exact ⟨rfl, hb99⟩
  · have hs1 : (s.length : Int) ≤ 8000 := by omega
    have hs8 : s.length ≤ 8000 := by omega
    clear hs
    have hp : ∀ p ∈ splitL s 10, p.length ≤ 100000 := fun p hp => by have := split_part s 10 p hp; omega
    have hq : (splitL s 10).length ≤ 90000 := by have := split_cnt s; omega
    have hback := Lib.hid (read_back (now := now) hs8)
    have hmd := Lib.hid (read_md now (splitL s 10) [] 1 hp (fun x hx => by cases hx))
    go_enter Try.func6, Try.ntmps6
    go_wp2_with fail
    refine (read46_any s now _ (by omega) hp hq hn1 hn2).mono ?_
    rintro e w1 ⟨A1, c1, rfl, ho1, hb1⟩
    have hX1 := Rd.of_own ho1
    clear ho1
    go_wp2_with fail
    refine (refRead46_any s now _ (by omega) hq hn1 hn2).mono ?_
    rintro e w2 ⟨A2, c2, rfl, ho2, hb2⟩
    have hY2 := Rd.of_own ho2
    have hX2 := hX1.below hb2
    have hB2 := bel_call hb1 hb2
    clear ho2 hX1 hb1 hb2 hp
    generalize hR : readL now [] 1 (splitL s 10) = R at *
    obtain ⟨G, n, er⟩ := R
    simp only at hX2 hY2 hback hmd ⊢
    go_wp2_with fail
    refine (sameI_any A1 A2 _ c1 _ c2 G G _ hX2 hY2).mono ?_
    rintro e w3 ⟨rfl, hb3⟩
    rw [show decide (G = G) = true from decide_eq_true rfl]
    have hB3 := bel_call hB2 hb3
    have hX3 := hX2.below hb3
    clear hB2 hX2 hY2 hb3
    by_cases he : er = 0
    · subst he
      obtain ⟨b1, b2, b3, b4⟩ := hback.out rfl
      have hq2 := hmd.out
      clear hback hmd hR
      have hsum : sumT G ≤ 1000000 := by rw [← lines_len]; omega
      have hp5 : ∀ p ∈ splitL (linesT G) 10, p.length ≤ 100000 := fun p hp => by have := split_part (linesT G) 10 p hp; omega
      have hq5 : (splitL (linesT G) 10).length ≤ 90000 := by have := split_cnt (linesT G); omega
      have hmd5 := hq2.1
      have hgl : G.length ≤ 50000 := by
        have := split_cnt s
        have h2 := hq2.2
        rw [List.length_nil] at h2
        omega
      have hl5 : (linesT G).length ≤ 1000000 := by omega
      have b4H := Lib.hid b4
      have b12 := Lib.hid (And.intro b1 b2)
      clear b1 b2 b4 hq2
      go_wp2_with fail
      refine (text46_any A1 c1 G _ hX3 hgl hmd5 hsum).mono ?_
      rintro e w4 ⟨rfl, hb4⟩
      rw [b12.out.1, b12.out.2]
      have hB4 := bel_call hB3 hb4
      have hX4 := hX3.below hb4
      clear hB3 hX3 hb4 b12 hmd5 hsum hgl
      go_wp2_with fail
      refine (read46_any (linesT G) now _ hl5 hp5 hq5 hn1 hn2).mono ?_
      rintro e w5 ⟨A5, c5, rfl, ho5, hb5⟩
      rw [b4H.out] at ho5 ⊢
      simp only at ho5 ⊢
      have hB5 := bel_call hB4 hb5
      have hX5 := hX4.below hb5
      have hY5 := Rd.of_own ho5
      clear hB4 hX4 ho5 hb5 b4H hp5 hq5 hl5
      generalize linesT G = T at *
      go_wp2_with fail
      refine (sameI_any A5 A1 _ c5 _ c1 G G _ hY5 hX5).mono ?_
      rintro e w6 ⟨rfl, hb6⟩
      rw [show decide (G = G) = true from decide_eq_true rfl]
      have hB6 := bel_call hB5 hb6
      clear hB5 hX5 hY5 hb6
      go_wp2_with (go_at_call 8; refine (awake_any _).mono ?_; rintro e w99 ⟨rfl, hb99⟩)
      go_ret
      exact ⟨rfl, bel_call hB6 hb99⟩
    · have he1 : (er != 0) = true := by simpa using he
      clear hback hmd he hR
      go_wp2_with (go_at_call 8; refine (awake_any _).mono ?_; rintro e w99 ⟨rfl, hb99⟩)
      go_ret
      exact ⟨rfl, bel_call hB3 hb99⟩
theorem exportReads (s : ByteArray) (now : Int) (w : World) (hs : s.size ≤ maxLen) (hn : (Lit.int .i64 now).wf = true) :
    Calls Try.prog 6 #[.string s, .int .i64 now] w fun e w' => e = .returned (.bool true) ∧ Below w.heap.size w w' := by
  obtain ⟨l, rfl⟩ : ∃ l : List UInt8, s = S l := ⟨s.data.toList, rfl⟩
  exact exportReads0 l now w (i64_wfV hn).1 (i64_wfV hn).2
end Go.Proofs.Ytgfoaopfdpclhaa
