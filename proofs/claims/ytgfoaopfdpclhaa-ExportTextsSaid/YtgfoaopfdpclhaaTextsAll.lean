/-
  Joined texts: ExpF ExpX ExpR ExpA Exp8 Appl1 ItemOpen ExpU.
-/
import Derived.Test.YtgfoaopfdpclhaaExpT
import Derived.Test.YtgfoaopfdpclhaaView
import Derived.Lib.AppendStr
import Derived.Lib.BufferRead
import Derived.Test.YtgfoaopfdpclhaaExp5
import Derived.Test.YtgfoaopfdpclhaaExp7
import Derived.Test.YtgfoaopfdpclhaaAppP
import Derived.Test.YtgfoaopfdpclhaaDiff5
import Derived.Test.YtgfoaopfdpclhaaChg
namespace Go.Proofs.Ytgfoaopfdpclhaa
open Go.RowKit
set_option linter.unusedVariables false

set_option maxHeartbeats 2000000 in
theorem find46_any (A : Option Addr) (n c : Nat) (l : List It) (k : Ky) (w : World) (h : Rd w 11 (.slice A n c) n (l.flatMap cI)) :
    Calls Try.prog 38 #[.slice A n c, vK k] w fun e w' => e = .returned (.bool (hasK l k)) ∧ Below w.heap.size w w' := by
  have hl := h.rows (sz := 11) (f := cI) (fun q => rfl) (by decide)
  have hcap := h.cap
  unfold maxLen at hcap
  obtain ⟨hca, hcb⟩ := hcap
  subst hl
  go_enter Try.func38, Try.ntmps38
  go_wp2_with fail
  have hB : Below w.heap.size w (w.alloc (Obj.cells (cK k).toArray 23)) := bel_alloc (Below.refl _ _) _
  have hk0 : kyAt (w.alloc (Obj.cells (cK k).toArray 23)) w.heap.size 0 = some k := by go_simp
  show Code.wp _ _ _ _ (w.alloc (Obj.cells (cK k).toArray 23))
  have hgs : w.heap.size < (w.alloc (Obj.cells (cK k).toArray 23)).heap.size := by simp
  generalize (w.alloc (Obj.cells (cK k).toArray 23)) = W at *
  go_loopw [9] (fun i wr => ∃ j : Nat, j ≤ l.length ∧ i = .int .i64 j ∧ Below w.heap.size w wr ∧ kyAt wr w.heap.size 0 = some k ∧ Hid (findI (l.take j) k = none)) (fun i _ => l.length - (intOf i).toNat)
  case atStart => exact ⟨0, Nat.zero_le _, rfl, hB, hk0, rfl⟩
  case round =>
    obtain ⟨j, hj, rfl, hbel, hk, hno⟩ := hrel
    clear hk0 hB
    by_cases hlt : j < l.length
    · have hji : (j : Int) < l.length := by omega
      have hj0 : (0 : Int) ≤ (j : Int) := by omega
      obtain ⟨b, off, rfl, hb, hx⟩ := (h.below hbel).items hlt
      obtain ⟨hxi, hxk⟩ := hx j hlt
      clear hx
      have ht := findI_take hlt hno.out
      have hkl : w.heap.size < wr.heap.size := World.block_lt_of_cell? _ _ (ky_cells hk).1
      have hB2 := Lib.hid (bel_alloc hbel (.cells (cI l[j]).toArray 27))
      by_cases he : l[j].k = k
      · have hfin := Lib.hid (ht.1 he)
        have heb : decide (l[j].k = k) = true := decide_eq_true he
        clear ht he
        go_wp2
        go_ret
        exact ⟨ret_bool (by unfold hasK; rw [hfin.out]; rfl), hB2.out⟩
      · have hnx := Lib.hid (ht.2 he)
        have heb : decide (l[j].k = k) = false := decide_eq_false he
        clear ht he
        go_wp2
        go_roundw
        case rel => exact ⟨j + 1, by omega, by go_num, hB2.out, kyAt_later hk (bel_alloc (Below.refl _ _) _), hnx.out⟩
        case measure => simp [intOf]; omega
    · obtain rfl : j = l.length := by omega
      have hfin : Hid (findI l k = none) := by have := hno.out; rwa [List.take_length] at this
      clear hno
      go_wp2
      go_ret
      exact ⟨ret_bool (by unfold hasK; rw [hfin.out]; rfl), hbel⟩
end Go.Proofs.Ytgfoaopfdpclhaa
namespace Go.Proofs.Ytgfoaopfdpclhaa
open Go.RowKit
set_option linter.unusedVariables false

theorem puts_app : ∀ (r s : List It) (out : List It), putsT out (r ++ s) = (putsT out r).bind fun o => putsT o s
  | [], s, out => rfl
  | x :: r, s, out => by
    rw [List.cons_append, putsT, putsT]
    split
    · rfl
    · exact puts_app r s _
theorem putV_le (l : List It) (x : It) : (putV l x).length ≤ l.length + 1 := by
  unfold putV
  have h : (woL l x.k).length ≤ l.length := List.length_filter_le _ _
  rw [List.length_append, List.length_cons, List.length_take, List.length_drop]
  omega
theorem puts_len : ∀ (r : List It) {out o : List It}, putsT out r = some o → o.length ≤ out.length + r.length
  | [], out, o, h => by rw [putsT] at h; cases h; simp
  | x :: r, out, o, h => by
    rw [putsT] at h
    split at h
    · cases h
    · have := puts_len r h
      have := putV_le out x
      rw [List.length_cons]; omega
theorem puts_mem : ∀ (r : List It) {out o : List It}, putsT out r = some o → ∀ y ∈ o, y ∈ out ∨ y ∈ r
  | [], out, o, h, y, hy => by rw [putsT] at h; cases h; exact .inl hy
  | x :: r, out, o, h, y, hy => by
    rw [putsT] at h
    split at h
    · cases h
    · rcases puts_mem r h y hy with h | h
      · rcases mem_putV h with h | h
        · exact .inl h
        · rw [h]; exact .inr (by simp)
      · exact .inr (List.mem_cons_of_mem _ h)
theorem puts_sum : ∀ (r : List It) {out o : List It}, putsT out r = some o → sumT o ≤ sumT out + sumT r
  | [], out, o, h => by rw [putsT] at h; cases h; exact Nat.le_add_right _ _
  | x :: r, out, o, h => by
    rw [putsT] at h
    split at h
    · cases h
    · have := puts_sum r h
      have := sumT_putV out x
      rw [sumT_cons]; omega
theorem puts_next {l out : List It} {j : Nat} (hj : j < l.length) (h : putsT [] (l.take j) = some out) : putsT [] (l.take (j + 1)) = if hasK out l[j].k then none else some (putV out l[j]) := by
  rw [List.take_succ_eq_append_getElem hj, puts_app, h]
  show putsT out [l[j]] = _
  rw [putsT]; rfl
theorem puts_dead {l out : List It} {j : Nat} (hj : j < l.length) (h : putsT [] (l.take j) = some out) (hk : hasK out l[j].k = true) : putsT [] l = none := by
  have e := puts_next hj h
  rw [hk, if_pos rfl] at e
  have e2 : l = l.take (j + 1) ++ l.drop (j + 1) := (List.take_append_drop _ _).symm
  rw [e2, puts_app, e]; rfl
theorem lines_take {l : List It} {j : Nat} (hj : j < l.length) : linesT (l.take (j + 1)) = linesT (l.take j) ++ (lineS l[j] ++ [10]) := by
  unfold linesT
  rw [List.take_succ_eq_append_getElem hj, List.flatMap_append, List.flatMap_singleton]
theorem sum_take (l : List It) (j : Nat) : sumT (l.take j) ≤ sumT l := by
  have e : sumT l = sumT (l.take j) + sumT (l.drop j) := by rw [← sumT_app, List.take_append_drop]
  omega
theorem sum_mem {l : List It} {x : It} (h : x ∈ l) : (lineS x).length + 1 ≤ sumT l := by
  induction l with
  | nil => cases h
  | cons a r ih =>
    rw [sumT_cons]
    rcases List.mem_cons.1 h with h | h
    · subst h; omega
    · have := ih h; omega
theorem Try.infoU8 : (Try.prog.info? 5).map (fun i => (i.zero, i.size, i.bytes)) = some (some (.int .u8 0), 1, 1) := by kernel_rfl
theorem str_cells (l : List UInt8) : Go.Lib.strCells (S l) = l.map u8V := rfl
theorem conv_own {w : World} {B : Nat} {v : Value} {l : List UInt8} (ho : w.ownsRow B 5 1 v l.length (l.map u8V)) : (convert 55 9 v).run Try.prog w = .ok (.string (S l)) w := by
  rcases ho.2 with ⟨rfl, hl⟩ | ⟨g, cap, cur, rfl, _⟩
  · have : l = [] := List.eq_nil_of_length_eq_zero hl
    subst this
    exact Go.Lib.run_convert_nil_bytes w 55 9 5 0 Try.underlying55 Try.underlying5 Try.underlying9
  · exact run_bytes_S w 55 9 5 ⟨g, 0, none⟩ l.length cap l rfl Try.underlying55 Try.underlying5 Try.underlying9 (fun j hj => by
      refine ho.cells (g := g) rfl j _ ?_
      rw [List.getElem?_map, List.getElem?_eq_getElem hj, List.getD_eq_getElem?_getD, List.getElem?_eq_getElem hj]
      rfl)
set_option maxRecDepth 20000 in
set_option maxHeartbeats 8000000 in
theorem text46_any (A : Option Addr) (c : Nat) (l : List It) (w : World) (h : Rd w 11 (.slice A l.length c) l.length (l.flatMap cI)) (hn : l.length ≤ 50000) (hm : ∀ x ∈ l, MdI x) (hs : sumT l ≤ 1000000) :
    Calls Try.prog 16 #[.slice A l.length c] w fun e w' => e = .returned (.tuple #[.string (S (textS l)), .int .i64 (textE l)]) ∧ Below w.heap.size w w' := by
  have hcap := h.cap
  unfold maxLen at hcap
  obtain ⟨hca, hcb⟩ := hcap
  go_enter Try.func16, Try.ntmps16
  go_wp2_with fail
  go_loopw [18] (fun i wr => ∃ j : Nat, j ≤ l.length ∧ i = .int .i64 j ∧ Below w.heap.size w wr ∧ Hid (badT (l.take j) = false)) (fun i _ => l.length - (intOf i).toNat)
  case atStart => exact ⟨0, Nat.zero_le _, rfl, Below.refl _ _, rfl⟩
  case round =>
    obtain ⟨j, hj, rfl, hbel, hno⟩ := hrel
    by_cases hlt : j < l.length
    · have hji : (j : Int) < l.length := by omega
      have hj0 : (0 : Int) ≤ (j : Int) := by omega
      obtain ⟨b, off, rfl, hb, hx⟩ := (h.below hbel).items hlt
      obtain ⟨hxi, hxk⟩ := hx j hlt
      clear hx hxk
      have hmj := hm _ (List.getElem_mem hlt)
      have hB2 := bel_alloc hbel (.cells (cI l[j]).toArray 27)
      have hnx : Hid (badT (l.take (j + 1)) = (lineO l[j]).isNone) := by
        show _ = _
        unfold badT at *
        rw [List.take_succ_eq_append_getElem hlt, List.any_append, show (l.take j).any (fun x => (lineO x).isNone) = false from hno.out]
        simp
      have hbad : Hid ((lineO l[j]).isNone = true → badT l = true) := fun e => List.any_eq_true.2 ⟨l[j], List.getElem_mem hlt, e⟩
      clear hno
      go_wp2_with fail
      refine (line_any l[j] _ hmj).mono ?_
      rintro e w2 ⟨rfl, hb2⟩
      have hB3 := bel_call hB2 hb2
      clear hB2 hb2 hxi hbel
      cases hq : lineO l[j] with
      | none =>
        rw [(lineS_none hq).1, (lineS_none hq).2]
        have hbd := hbad.out (by rw [hq]; rfl)
        have hF : Hid (textS l = [] ∧ textE l = 1) := by
          have e : textE l = 1 := by unfold textE; rw [hbd]; rfl
          exact ⟨by unfold textS; rw [e]; rfl, e⟩
        clear hbad hnx hbd hq
        go_wp2
        go_ret2
        exact ⟨by rw [hF.out.1, hF.out.2]; rfl, hB3⟩
      | some t =>
        rw [(lineS_some hq).1, (lineS_some hq).2]
        have hn2 : Hid (badT (l.take (j + 1)) = false) := by show _ = _; rw [hnx.out, hq]; rfl
        clear hnx hbad hq
        go_wp2
        go_roundw
        case rel => exact ⟨j + 1, by omega, by go_num, hB3, hn2⟩
        case measure => simp [intOf]; omega
    · obtain rfl : j = l.length := by omega
      have hbd : Hid (badT l = false) := by have := hno.out; rwa [List.take_length] at this
      clear hno
      have hbel1 := hbel
      clear hbel
      have hown0 : ∀ wr : World, wr.ownsRow w.heap.size 27 11 (.slice none 0 0) 0 [] := fun wr => ⟨rfl, .inl ⟨rfl, rfl⟩⟩
      go_wp2_with fail
      go_loopw [8, 33] (fun va i wr => ∃ (j : Nat) (out : List It), j ≤ l.length ∧ i = .int .i64 j ∧ Hid (putsT [] (l.take j) = some out) ∧ wr.ownsRow w.heap.size 27 11 va out.length (out.flatMap cI) ∧ Below w.heap.size w wr) (fun _ i _ => l.length - (intOf i).toNat)
      case atStart => exact ⟨0, [], Nat.zero_le _, rfl, rfl, hown0 _, hbel1⟩
      case round =>
        obtain ⟨j, out, hj, rfl, hp, ho, hbel⟩ := hrel
        clear hbel1
        by_cases hlt : j < l.length
        · have hji : (j : Int) < l.length := by omega
          have hj0 : (0 : Int) ≤ (j : Int) := by omega
          obtain ⟨b, off, rfl, hb, hx⟩ := (h.below hbel).items hlt
          obtain ⟨hxi, hxk⟩ := hx j hlt
          clear hx hxk
          have hol := puts_len _ hp.out
          rw [List.length_take, List.length_nil] at hol
          have hnext := Lib.hid (puts_next hlt hp.out)
          have hdead := Lib.hid (puts_dead hlt hp.out)
          clear hp
          obtain ⟨A1, c1, rfl⟩ := own_form ho
          have hR1 := (Rd.of_own ho).alloc (.cells (cI l[j]).toArray 27)
          have ho1 := ho.alloc (.cells (cI l[j]).toArray 27)
          have hB1 := bel_alloc hbel (.cells (cI l[j]).toArray 27)
          have hz1 := itAt_new wr l[j] 27 wr.heap.size rfl
          clear ho
          go_wp2_with fail
          refine (find46_any A1 _ c1 out l[j].k _ hR1).mono ?_
          rintro e w2 ⟨rfl, hb2⟩
          have hB2 := bel_call hB1 hb2
          have hR2 := hR1.below hb2
          have ho2 := own_below ho1 hb2
          have hz2 := itAt_later hz1 hb2
          clear hB1 hb2 hR1 ho1 hz1 hxi hbel hb
          cases hk : hasK out l[j].k with
          | true =>
            have hF : Hid (textS l = [] ∧ textE l = 11) := by
              have e : textE l = 11 := by unfold textE; rw [hbd.out, hdead.out hk]; rfl
              exact ⟨by unfold textS; rw [e]; rfl, e⟩
            clear hnext hdead hk
            go_wp2
            go_ret2
            exact ⟨by rw [hF.out.1, hF.out.2]; rfl, hB2⟩
          | false =>
            have hn2 : Hid (putsT [] (l.take (j + 1)) = some (putV out l[j])) := by show _ = _; rw [hnext.out, hk]; rfl
            clear hnext hdead hk
            go_wp2_with fail
            refine (vPut_any A1 _ c1 out l[j] _ hR2 (by omega)).mono ?_
            rintro e w3 ⟨A3, c3, rfl, ho3, hb3⟩
            have hB3 := bel_call hB2 hb3
            have hsz := hB2.size
            have ho3' := own_low ho3 hsz
            clear hB2 hR2 ho2 hz2 ho3 hb3
            go_wp2
            go_roundw
            case rel => exact ⟨j + 1, putV out l[j], by omega, by go_num, hn2, ho3', hB3⟩
            case measure => simp [intOf]; omega
        · obtain rfl : j = l.length := by omega
          rw [List.take_length] at hp
          have hol := puts_len _ hp.out
          have hom := puts_mem _ hp.out
          have hos := puts_sum _ hp.out
          rw [List.length_nil] at hol
          have hos2 : sumT out ≤ 1000000 := by have : sumT [] = 0 := rfl; omega
          have hmo : ∀ x ∈ out, MdI x := fun x hx => by
            rcases hom x hx with h | h
            · cases h
            · exact hm x h
          have hF : Hid (textS l = linesT out ∧ textE l = 0) := by
            have e : textE l = 0 := by
              unfold textE
              rw [hbd.out, hp.out, if_neg (by simp), if_neg (by simp), if_neg]
              show ¬ (linesT out).length > 1048576
              rw [lines_len]; omega
            exact ⟨by unfold textS; rw [if_pos e, hp.out]; rfl, e⟩
          clear hp hom hos hm hbd
          obtain ⟨A1, c1, rfl⟩ := own_form ho
          have hR := Rd.of_own ho
          clear ho hown0 h
          generalize wr = Wb at *
          obtain ⟨i8, hi8, hz8, hs8, hb8⟩ := info_parts Try.infoU8
          have hown0 : Wb.ownsRow Wb.heap.size 5 1 (.slice none 0 0) (linesT (out.take 0)).length ((linesT (out.take 0)).map u8V) := ⟨rfl, .inl ⟨rfl, rfl⟩⟩
          go_wp2_with fail
          go_loopw [11, 47] (fun vb i wx => ∃ j : Nat, j ≤ out.length ∧ i = .int .i64 j ∧ wx.ownsRow Wb.heap.size 5 1 vb (linesT (out.take j)).length ((linesT (out.take j)).map u8V) ∧ Below Wb.heap.size Wb wx) (fun _ i _ => out.length - (intOf i).toNat)
          case atStart => exact ⟨0, Nat.zero_le _, rfl, hown0, Below.refl _ _⟩
          case round =>
            obtain ⟨j, hj2, rfl, ho, hb1⟩ := hrel
            clear hown0
            by_cases hlt2 : j < out.length
            · have hji : (j : Int) < out.length := by omega
              have hj0 : (0 : Int) ≤ (j : Int) := by omega
              obtain ⟨b, off, rfl, hbb, hx⟩ := (hR.below hb1).items hlt2
              obtain ⟨hxi, hxk⟩ := hx j hlt2
              clear hx hxk
              have hmj := hmo _ (List.getElem_mem hlt2)
              have hsl := sum_mem (List.getElem_mem hlt2)
              have hst := sum_take out j
              rw [← lines_len] at hst
              have hnx := Lib.hid (lines_take hlt2)
              have hB1 := bel_alloc hb1 (.cells (cI out[j]).toArray 27)
              have ho1 := ho.alloc (.cells (cI out[j]).toArray 27)
              clear ho
              generalize hLj : linesT (out.take j) = Lj at *
              clear hLj
              go_wp2_with fail
              refine (line_any out[j] _ hmj).mono ?_
              rintro e w2 ⟨rfl, hb2⟩
              have hB2 := bel_call hB1 hb2
              have ho2 := own_below ho1 hb2
              clear hB1 hb2 ho1 hxi hbb hmj hb1
              generalize lineS out[j] = t at *
              have hc1 : ¬ (9223372036854775807 < t.length + 1) := by omega
              have hc2 : t.length + 1 ≤ maxLen := by unfold maxLen; omega
              have hsz2 := hB2.size
              go_wp2_with (at_builtin; refine Go.Lib.wpList_append_own_string _ rfl _ _ 55 9 rfl Wb.heap.size 5 i8 Try.underlying55 Try.underlying9 hi8 hz8 hs8 hb8 _ _ _ rfl ho2 (S (t ++ [10])) rfl ?c1 ?c2 hsz2 ?_)
              case c1 => unfold maxLen; simp; omega
              case c2 => simp; omega
              intro v3 w3 ho3 hg3 hn3
              have hB3 := hB2.grown hg3 hsz2 (fun k hk => (ho2.lt k hk).1)
              clear ho2 hg3 hn3 hB2
              go_wp2
              go_roundw
              case rel => exact ⟨j + 1, by omega, by go_num, by rw [hnx.out, List.map_append, List.length_append]; simpa [str_cells] using ho3, hB3⟩
              case measure => simp [intOf]; omega
            · obtain rfl : j = out.length := by omega
              rw [List.take_length] at ho
              rw [← lines_len] at hos2
              generalize linesT out = Lo at *
              have hB9 := bel_call hbel hb1
              have hlg : ¬ ((1048576 : Int) < Lo.length) := by omega
              have hcv := conv_own ho
              obtain ⟨A4, c4, rfl⟩ := own_form ho
              clear ho hR hbel hb1 hmo
              go_wp2
              go_ret2
              exact ⟨by rw [hF.out.1, hF.out.2]; rfl, hB9⟩
end Go.Proofs.Ytgfoaopfdpclhaa
namespace Go.Proofs.Ytgfoaopfdpclhaa
open Go.RowKit
set_option linter.unusedVariables false

def lenV : Value → Nat
  | .string b => b.size
  | _ => 0
theorem lenV_S (t : List UInt8) : lenV (.string (S t)) = t.length := rfl
def ReadPost (R : List It × Nat × Int) (w : World) (e : Ending) (w' : World) : Prop :=
  ∃ A c, e = .returned (.tuple #[.slice A R.1.length c, .int .i64 R.2.1, .int .i64 R.2.2]) ∧ w'.ownsRow w.heap.size 27 11 (.slice A R.1.length c) R.1.length (R.1.flatMap cI) ∧ Below w.heap.size w w'
theorem read_none {R : List It × Nat × Int} {n : Nat} {k : Int} {w w' : World} (h : R = ([], n, k)) (hb : Below w.heap.size w w') : ReadPost R w (.returned (.tuple #[.slice none 0 0, .int .i64 n, .int .i64 k])) w' := by
  subst h
  exact ⟨none, 0, rfl, ⟨rfl, .inl ⟨rfl, rfl⟩⟩, hb⟩
theorem readL_cons (now : Int) (out : List It) (n : Nat) (a b : List UInt8) : readL now out n (a :: splitL b 10) = if passedB a then readL now out (n + 1) (splitL b 10) else match parseO a now with
    | none => ([], n, 1)
    | some x => if hasK out x.k then ([], n, 11) else readL now (putV out x) (n + 1) (splitL b 10) := by
  cases h : splitL b 10 with
  | nil => exact absurd h (split_ne b 10)
  | cons q r =>
    rw [readL]
    cases passedB a <;> cases parseO a now <;> rfl
set_option maxRecDepth 20000 in
set_option maxHeartbeats 8000000 in
theorem read46_any (s : List UInt8) (now : Int) (w : World) (hs : s.length ≤ 1000000) (hp : ∀ p ∈ splitL s 10, p.length ≤ 100000) (hq : (splitL s 10).length ≤ 90000) (hn1 : -9223372036854775808 ≤ now) (hn2 : now ≤ 9223372036854775807) :
    Calls Try.prog 18 #[.string (S s), .int .i64 now] w (ReadPost (readL now [] 1 (splitL s 10)) w) := by
  obtain ⟨R, hR⟩ : ∃ R, R = readL now [] 1 (splitL s 10) := ⟨_, rfl⟩
  rw [← hR]
  have hR0 := Lib.hid hR.symm
  clear hR
  have hs2 : ¬ ((1048576 : Int) < s.length) := by omega
  go_enter Try.func18, Try.ntmps18
  go_wp2_with fail
  go_loopw [0, 7, 8] (fun vs va vn wr => ∃ (t : List UInt8) (out : List It) (n : Nat), vs = .string (S t) ∧ vn = .int .i64 n ∧ t.length + n ≤ s.length + 1 ∧ n + (splitL t 10).length ≤ 90001 ∧ (∀ p ∈ splitL t 10, p.length ≤ 100000) ∧ Hid (readL now out n (splitL t 10) = R) ∧ wr.ownsRow w.heap.size 27 11 va out.length (out.flatMap cI) ∧ out.length + 1 ≤ n ∧ Below w.heap.size w wr) (fun vs _ _ _ => lenV vs)
  case atStart => exact ⟨s, [], 1, rfl, rfl, by omega, by omega, hp, hR0, ⟨rfl, .inl ⟨rfl, rfl⟩⟩, by simp, Below.refl _ _⟩
  case round =>
    obtain ⟨t, out, n, rfl, rfl, htl, hnl, hpt, hR, ho, hol, hbel⟩ := hrel
    clear hR0 hp hq
    obtain ⟨A1, c1, rfl⟩ := own_form ho
    by_cases h0 : t = []
    · subst h0
      have hF : Hid (R = (out, 0, 0)) := by
        show _ = _
        rw [← hR.out]; rfl
      clear hR hpt
      go_wp2
      go_ret3
      rw [hF.out]
      exact ⟨A1, c1, rfl, ho, hbel⟩
    · have e1 : (t == []) = false := by simpa using h0
      have hm : (S t).size ≤ maxLen := by unfold maxLen; simp; omega
      cases hc : cutL t 10 with
      | none =>
        have hF : Hid (R = ([], n, 2)) := by
          show _ = _
          rw [← hR.out, split_cut, hc]
          show readL now out n [t] = _
          rw [readL, if_neg h0]
        clear hR hpt
        go_wp2_with fail
        refine (cut_any_none (S t) 10 _ hm (by rw [S_toList]; exact hc)).mono ?_
        rintro e w1 ⟨rfl, rfl⟩
        clear hc h0
        go_wp2
        go_ret3
        exact read_none hF.out hbel
      | some ab =>
        obtain ⟨a, b⟩ := ab
        have hab := cut_some hc
        have hsp : splitL t 10 = a :: splitL b 10 := by rw [split_cut, hc]
        rw [hsp] at hpt
        have ha := hpt a (by simp)
        have hpb : ∀ p ∈ splitL b 10, p.length ≤ 100000 := fun p hp => hpt p (List.mem_cons_of_mem _ hp)
        have hR2 : Hid (readL now out n (a :: splitL b 10) = R) := by rw [← hsp]; exact hR
        have hlab : t.length = a.length + 1 + b.length := by
          have := hab.2.2.2.1
          rw [this]; simp; omega
        rw [readL_cons] at hR2
        rw [hsp, List.length_cons] at hnl
        clear hpt hab hsp hR
        go_wp2_with fail
        refine (cut_any_some (S t) 10 _ hm a b (by rw [S_toList]; exact hc)).mono ?_
        rintro e w1 ⟨rfl, hb1⟩
        have hB1 := bel_call hbel hb1
        have ho1 := own_below ho hb1
        clear hbel ho hb1 hc h0
        go_wp2_with fail
        refine (passed_any a _ (by omega)).mono ?_
        rintro e w2 ⟨rfl, rfl⟩
        cases hpa : passedB a with
        | true =>
          rw [hpa, if_pos rfl] at hR2
          clear hpa e1 hm
          go_wp2
          go_roundw
          case rel => exact ⟨b, out, n + 1, rfl, by go_num, by omega, by omega, hpb, hR2, ho1, by omega, hB1⟩
          case measure => rw [lenV_S, lenV_S]; omega
        | false =>
          rw [hpa, if_neg (by simp)] at hR2
          clear hpa e1 hm
          go_wp2_with fail
          refine (parse_any a now _ ha hn1 hn2).mono ?_
          rintro e w3 ⟨rfl, hb3⟩
          have hB3 := bel_call hB1 hb3
          have ho3 := own_below ho1 hb3
          clear hB1 ho1 hb3
          cases hpo : parseO a now with
          | none =>
            rw [hpo] at hR2
            have e2 := parse_none (s := a) (now := now) (by rw [hpo]; rfl)
            rw [e2.1, e2.2]
            clear hpo e2
            have hB4 := Lib.hid (bel_alloc hB3 (.cells (cI itZ).toArray 27))
            clear hB3 ho3
            go_wp2
            go_ret3
            exact read_none hR2.out.symm hB4.out
          | some x =>
            rw [hpo] at hR2
            have e2 := parse_is hpo
            rw [e2.1, e2.2]
            clear hpo e2
            have hB4 := bel_alloc hB3 (.cells (cI x).toArray 27)
            have ho4 := ho3.alloc (.cells (cI x).toArray 27)
            have hx4 := itAt_new w3 x 27 w3.heap.size rfl
            have hR4 := Rd.of_own ho4
            clear hB3 ho3
            go_wp2_with fail
            refine (find46_any A1 _ c1 out x.k _ hR4).mono ?_
            rintro e w5 ⟨rfl, hb5⟩
            have hB5 := bel_call hB4 hb5
            have hR5 := hR4.below hb5
            have hx5 := itAt_later hx4 hb5
            clear hB4 ho4 hx4 hR4 hb5
            cases hk : hasK out x.k with
            | true =>
              have hF : Hid (R = ([], n, 11)) := by show _ = _; rw [← hR2.out]; show (if hasK out x.k = true then _ else _) = _; rw [hk]; rfl
              clear hR2 hk
              go_wp2
              go_ret3
              exact read_none hF.out hB5
            | false =>
              have hF : Hid (readL now (putV out x) (n + 1) (splitL b 10) = R) := by show _ = _; rw [← hR2.out]; show _ = (if hasK out x.k = true then _ else _); rw [hk]; rfl
              clear hR2 hk
              go_wp2_with fail
              refine (vPut_any A1 _ c1 out x _ hR5 (by omega)).mono ?_
              rintro e w6 ⟨A6, c6, rfl, ho6, hb6⟩
              have hB6 := bel_call hB5 hb6
              have hsz := hB5.size
              have ho6' := own_low ho6 hsz
              have hle := putV_le out x
              clear hB5 hR5 hx5 ho6 hb6
              go_wp2
              go_roundw
              case rel => exact ⟨b, putV out x, n + 1, rfl, by go_num, by omega, by omega, hpb, hF, ho6', by omega, hB6⟩
              case measure => rw [lenV_S, lenV_S]; omega
end Go.Proofs.Ytgfoaopfdpclhaa
namespace Go.Proofs.Ytgfoaopfdpclhaa
open Go.RowKit
set_option linter.unusedVariables false

theorem aged_at {w : World} {g : Nat} {t : TypeId} {x : It} (h : Blk w g t (cI x).toArray) (n : Int) : itAt ((w.setCell ⟨g, 9, none⟩ (.int .i64 n)).setCell ⟨g, 10, none⟩ (.int .i64 n)) g 0 = some (agedX x n) := by
  have hb := rb_put (rb_put h 9 (.int .i64 n)) 10 (.int .i64 n)
  exact itAt_of (fun j v hv => by
    rw [Nat.zero_add, hb.cell j]
    match j, hv with
    | 0, hv => exact hv
    | 1, hv => exact hv
    | 2, hv => exact hv
    | 3, hv => exact hv
    | 4, hv => exact hv
    | 5, hv => exact hv
    | 6, hv => exact hv
    | 7, hv => exact hv
    | 8, hv => exact hv
    | 9, hv => exact hv
    | 10, hv => exact hv
    | j + 11, hv => simp [cI, cK, cCk] at hv)
set_option maxRecDepth 20000 in
set_option maxHeartbeats 4000000 in
theorem aged_any (A : Option Addr) (c : Nat) (l : List It) (t : Int) (w : World) (h : Rd w 11 (.slice A l.length c) l.length (l.flatMap cI)) (hn : l.length ≤ 100000) :
    Calls Try.prog 12 #[.slice A l.length c, .int .i64 t] w (RowPost (l.map (agedX · t)) w) := by
  obtain ⟨i0, hi, hz0, hz1, hz2⟩ := info_parts Try.infoI
  have hcap := h.cap
  unfold maxLen at hcap
  obtain ⟨hca, hcb⟩ := hcap
  go_enter Try.func12, Try.ntmps12
  go_wp2_with fail
  have hown0 : (w.alloc (Obj.cells #[] 27)).ownsRow w.heap.size 27 11 (.slice (some ⟨w.heap.size, 0, none⟩) 0 0) 0 [] :=
    World.ownsRow_lit w #[] 0 (Nat.le_refl _) (by unfold maxLen; omega) rfl
  have hB0 : Below w.heap.size w (w.alloc (Obj.cells #[] 27)) := bel_alloc (Below.refl _ _) _
  generalize (w.alloc (Obj.cells #[] 27)) = W at *
  go_loopw [5, 6] (fun va i wr => ∃ j : Nat, j ≤ l.length ∧ i = .int .i64 j ∧ wr.ownsRow w.heap.size 27 11 va j (((l.take j).map (agedX · t)).flatMap cI) ∧ Below w.heap.size w wr) (fun _ i _ => l.length - (intOf i).toNat)
  case atStart => exact ⟨0, Nat.zero_le _, rfl, hown0, hB0⟩
  case round =>
    obtain ⟨j, hj, rfl, hoa, hbel⟩ := hrel
    clear hB0 hown0
    by_cases hlt : j < l.length
    · have hji : (j : Int) < l.length := by omega
      have hj0 : (0 : Int) ≤ (j : Int) := by omega
      obtain ⟨b, off, rfl, hb, hx⟩ := (h.below hbel).items hlt
      obtain ⟨hxi, hxk⟩ := hx j hlt
      clear hx hxk
      have hfa : Hid ((l.take (j + 1)).map (agedX · t) = (l.take j).map (agedX · t) ++ [agedX l[j] t]) := by
        show _ = _
        rw [List.take_succ_eq_append_getElem hlt, List.map_append]; rfl
      go_upto_region 8 with (fail)
      show Code.wp _ _ _ _ (wr.alloc (.cells (cI (agedX l[j] t)).toArray 27))
      clear hxi hb
      generalize agedX l[j] t = y at *
      have hkl := hbel.size
      have hy := itAt_new wr y 27 wr.heap.size rfl
      have hoa' := hoa.alloc (.cells (cI y).toArray 27)
      have hbel' := bel_alloc hbel (.cells (cI y).toArray 27)
      clear hoa hbel
      generalize wr.alloc (.cells (cI y).toArray 27) = w2 at *
      have hsz' := hbel'.size
      go_wp2_with (at_builtin; refine wpList_push_at rfl _ _ 29 rfl w.heap.size 27 i0 (vI (noneI k0)) 11 96 Try.underlying29 hi hz0 hz1 hz2 rfl (by decide) _ _ _ rfl hoa' _ _ rfl rfl (by simp) (cI_one _) ?c1 ?c2 hsz' hbel' ?_)
      case c1 => unfold maxLen; omega
      case c2 => omega
      intro v' w3 hoa2 hg2 hm2 hbel2 hsz2
      clear hoa' hy hg2 hm2 hbel'
      go_wp2
      go_roundw
      case rel => exact ⟨j + 1, by omega, by go_num, by rw [hfa.out, flat_snoc]; simpa only [List.map_take] using hoa2, hbel2⟩
      case measure => simp [intOf]; omega
    · obtain rfl : j = l.length := by omega
      rw [List.take_length] at hoa
      go_wp2
      go_ret
      obtain ⟨A3, c3, rfl⟩ := own_form hoa
      rw [show l.length = (l.map (agedX · t)).length by simp] at hoa ⊢
      exact ⟨A3, c3, rfl, hoa, hbel⟩
end Go.Proofs.Ytgfoaopfdpclhaa
namespace Go.Proofs.Ytgfoaopfdpclhaa
open Go.RowKit
set_option linter.unusedVariables false

def ltI (x : It) : Bool := decide (x.k.n.length ≤ 2000) && (decide (x.k.d.length ≤ 2000) && (decide (x.k.p.length ≤ 2000) && decide (x.c.v.length ≤ 2000)))
def ltL (l : List It) : Bool := decide (l.length ≤ 20) && l.all ltI
set_option maxRecDepth 20000 in
set_option maxHeartbeats 2000000 in
theorem light_any (A : Option Addr) (c : Nat) (l : List It) (w : World) (hl : l.length ≤ maxLen) (h : Rd w 11 (.slice A l.length c) l.length (l.flatMap cI)) :
    Calls Try.prog 7 #[.slice A l.length c] w fun e w' => e = .returned (.bool (ltL l)) ∧ Below w.heap.size w w' := by
  by_cases h20 : (20 : Int) < l.length
  · have hf := Lib.hid (show ltL l = false by unfold ltL; rw [decide_eq_false (by omega)]; rfl)
    go_enter Try.func7, Try.ntmps7
    go_wp2
    go_ret
    exact ⟨ret_bool hf.out.symm, Below.refl _ _⟩
  · have h20' : (l.length : Int) ≤ 20 := by omega
    clear h20
    have hf := Lib.hid (show ltL l = l.all ltI by unfold ltL; rw [decide_eq_true (by omega)]; rfl)
    go_enter Try.func7, Try.ntmps7
    go_wp2_with fail
    go_loopw [3] (fun i wr => ∃ k : Nat, k ≤ l.length ∧ i = .int .i64 k ∧ Below w.heap.size w wr ∧ (l.take k).all ltI = true) (fun i _ => l.length - (intOf i).toNat)
    case atStart => exact ⟨0, Nat.zero_le _, rfl, Below.refl _ _, rfl⟩
    case round =>
      obtain ⟨k, hk, rfl, hbel, hall⟩ := hrel
      have hk0 : (0 : Int) ≤ (k : Int) := by omega
      by_cases hlt : k < l.length
      · have hj : (k : Int) < (l.length : Int) := by omega
        obtain ⟨b, off, rfl, hb, hx⟩ := (h.below hbel).items hlt
        obtain ⟨hxi, hxk⟩ := hx k hlt
        clear hx
        obtain ⟨p0, p1, p2⟩ := ky_cells hxk
        obtain ⟨p3, _, _⟩ := ck_cells2 (ckAt_it hxi)
        by_cases hg : ltI l[k] = true
        · have hg' := hg
          unfold ltI at hg'
          simp only [Bool.and_eq_true, decide_eq_true_eq] at hg'
          obtain ⟨g1, g2, g3, g4⟩ := hg'
          have i1 : (l[k].k.n.length : Int) ≤ 2000 := by omega
          have i2 : (l[k].k.d.length : Int) ≤ 2000 := by omega
          have i3 : (l[k].k.p.length : Int) ≤ 2000 := by omega
          have i4 : (l[k].c.v.length : Int) ≤ 2000 := by omega
          have hn := Lib.hid (show (l.take (k + 1)).all ltI = true by rw [List.take_succ_eq_append_getElem hlt, List.all_append, hall]; simp [hg])
          clear hg g1 g2 g3 g4 hall
          go_wp2
          go_roundw
          case rel => exact ⟨k + 1, by omega, by go_num, hbel, hn.out⟩
          case measure => simp [intOf]; omega
        · have hF := Lib.hid (show l.all ltI = false by
            rw [Bool.eq_false_iff]
            intro h'
            exact hg (List.all_eq_true.1 h' _ (List.getElem_mem hlt)))
          by_cases i1 : (l[k].k.n.length : Int) ≤ 2000
          · by_cases i2 : (l[k].k.d.length : Int) ≤ 2000
            · by_cases i3 : (l[k].k.p.length : Int) ≤ 2000
              · have i4 : (2000 : Int) < l[k].c.v.length := by
                  unfold ltI at hg
                  simp only [Bool.and_eq_true, decide_eq_true_eq] at hg
                  omega
                go_wp2
                go_ret
                exact ⟨ret_bool (by rw [hf.out, hF.out]), hbel⟩
              · replace i3 : (2000 : Int) < l[k].k.p.length := by omega
                go_wp2
                go_ret
                exact ⟨ret_bool (by rw [hf.out, hF.out]), hbel⟩
            · replace i2 : (2000 : Int) < l[k].k.d.length := by omega
              go_wp2
              go_ret
              exact ⟨ret_bool (by rw [hf.out, hF.out]), hbel⟩
          · replace i1 : (2000 : Int) < l[k].k.n.length := by omega
            go_wp2
            go_ret
            exact ⟨ret_bool (by rw [hf.out, hF.out]), hbel⟩
      · obtain rfl : k = l.length := by omega
        have hn := Lib.hid (show l.all ltI = true by rwa [List.take_length] at hall)
        clear hall
        go_wp2
        go_ret
        exact ⟨ret_bool (by rw [hf.out, hn.out]), hbel⟩
end Go.Proofs.Ytgfoaopfdpclhaa
namespace Go.Proofs.Ytgfoaopfdpclhaa
open Go.RowKit
set_option linter.unusedVariables false

set_option maxHeartbeats 1000000 in
theorem sameI_any (A1 A2 : Option Addr) (n1 c1 n2 c2 : Nat) (l1 l2 : List It) (w : World) (h1 : Rd w 11 (.slice A1 n1 c1) n1 (l1.flatMap cI)) (h2 : Rd w 11 (.slice A2 n2 c2) n2 (l2.flatMap cI)) :
    Calls Try.prog 19 #[.slice A1 n1 c1, .slice A2 n2 c2] w fun e w' => e = .returned (.bool (decide (l1 = l2))) ∧ Below w.heap.size w w' := by
  have hl1 := h1.rows (sz := 11) (f := cI) (fun q => rfl) (by decide)
  have hl2 := h2.rows (sz := 11) (f := cI) (fun q => rfl) (by decide)
  have hcap1 := h1.cap
  have hcap2 := h2.cap
  unfold maxLen at hcap1 hcap2
  obtain ⟨hca1, hcb1⟩ := hcap1
  obtain ⟨hca2, hcb2⟩ := hcap2
  subst hl1 hl2
  by_cases hne : l1.length = l2.length
  · have hne1 : ((l1.length : Int) != l2.length) = false := by rw [bne_eq_false_iff_eq]; omega
    have hle : l1.length ≤ l2.length ∧ l2.length ≤ l1.length := by omega
    have hE := Lib.hid hne
    clear hne
    obtain ⟨hle1, hle2⟩ := hle
    go_enter Try.func19, Try.ntmps19
    go_wp2
    go_loopw [5] (fun i wr => ∃ k : Nat, k ≤ l1.length ∧ i = .int .i64 k ∧ Below w.heap.size w wr ∧ Hid (∀ j (hj : j < l1.length) (hj' : j < l2.length), j < k → l1[j] = l2[j])) (fun i _ => l1.length - (intOf i).toNat)
    case atStart => exact ⟨0, Nat.zero_le _, rfl, Below.refl _ _, fun j _ _ hj => absurd hj (by omega)⟩
    case round =>
      obtain ⟨k, hk, rfl, hbel, hall⟩ := hrel
      by_cases hlt : k < l1.length
      · have hlt2 : k < l2.length := by omega
        have hlti : (k : Int) < l1.length := by omega
        have hlti2 : (k : Int) < l2.length := by omega
        obtain ⟨b1, o1, rfl, hb1, hx1⟩ := (h1.below hbel).items hlt
        obtain ⟨b2, o2, rfl, hb2, hx2⟩ := (h2.below hbel).items hlt2
        have hxa := (hx1 k hlt).1
        have hxb := (hx2 k hlt2).1
        clear hx1 hx2
        go_wp2
        by_cases he : l1[k] = l2[k]
        · have heb : decide (l1[k] = l2[k]) = true := decide_eq_true he
          have hS := Lib.hid he
          clear he
          go_quiet (fail)
          have hbel' := below_drews hbel nq
          clear hxa hxb hb1 hb2 hbel
          generalize wr.drewN nq = wq at *
          go_wp2
          go_roundw
          case rel => exact ⟨k + 1, by omega, by go_num, hbel', fun j hj hj' hjk => by
            by_cases e : j = k
            · subst e; exact hS.out
            · exact hall.out j hj hj' (by omega)⟩
          case measure => simp [intOf]; omega
        · have heb : decide (l1[k] = l2[k]) = false := decide_eq_false he
          have hD : Hid (¬ l1 = l2) := fun e => he (by subst e; rfl)
          clear he
          go_quiet (fail)
          have hbel' := below_drews hbel nq
          clear hxa hxb hb1 hb2 hbel
          generalize wr.drewN nq = wq at *
          go_wp2
          go_ret
          exact ⟨ret_bool (decide_eq_false hD.out).symm, hbel'⟩
      · obtain rfl : k = l1.length := by omega
        go_wp2
        go_ret
        exact ⟨ret_bool (decide_eq_true (List.ext_getElem hE.out fun j a b => hall.out j a b a)).symm, hbel⟩
  · have hne1 : ((l1.length : Int) != l2.length) = true := by rw [bne_iff_ne]; omega
    go_enter Try.func19, Try.ntmps19
    go_wp2
    go_ret
    refine ⟨ret_bool (Eq.symm (decide_eq_false ?_)), Below.refl _ _⟩
    intro e
    exact hne (by rw [e])

theorem back_take (l : List Ch) (k : Nat) (h : k < l.length) : (backL (l.take (k + 1))).flatMap cC = (backL (l.take k)).flatMap cC ++ cC (backC l[k]) := by
  unfold backL
  rw [List.take_succ_eq_append_getElem h, List.map_append, List.flatMap_append]
  simp
theorem rdAt_grown {α : Type} {f : α → List Value} {w w' : World} {row : Option Nat} (hg : w.grownBy w' row) {b o : Nat} {x : α} (hx : rdAt f w b o = some x) (hb : b < w.heap.size) (hne : some b ≠ row) : rdAt f w' b o = some x :=
  (rdAt_cells fun o => by unfold World.cell?; rw [hg.block b hb hne]).trans hx
end Go.Proofs.Ytgfoaopfdpclhaa
namespace Go.Proofs.Ytgfoaopfdpclhaa
open Go.RowKit Go.Deep Go.WideShapes
set_option linter.unusedVariables false

/-- What is known of a text, a number, an item that came in. -/
def okK (k : Ky) : Prop := k.n.length ≤ maxLen ∧ k.d.length ≤ maxLen ∧ k.p.length ≤ maxLen
def okI (x : It) : Prop := okK x.k ∧ x.c.v.length ≤ maxLen ∧ (Lit.int .i64 x.c.ex).wf = true ∧ (Lit.int .i64 x.c.cr).wf = true ∧ (Lit.int .i64 x.c.ac).wf = true
section
variable {H : Type} {enc : TypeId × Value → H} {w : World} {base : Nat} {spare : Nat → Bool} {held : Bool}

set_option maxRecDepth 100000 in
theorem key_cells {fuel : Nat} {cs : List Value} {x : DataW H × List MemPlace} (h : DataW.trod enc Try.prog w base spare held fuel 23 cs = some x) :
    ∃ (v0 : ByteArray) (v1 : ByteArray) (v2 : ByteArray), cs = [.string v0, .string v1, .string v2] ∧ v0.size ≤ maxLen ∧ v1.size ≤ maxLen ∧ v2.size ≤ maxLen := by
  obtain ⟨xs, n, _, _, hlen, hxl, hf⟩ := DataW.trod_struct Try.unnK h
  have hfl := Try.flsK
  have zS : Try.prog.cellsOf 9 = 1 := by kernel_rfl
  have hsz0 : Try.prog.cellsOf 23 = 3 := by kernel_rfl
  rcases hl : (Try.prog.fieldsOf 23).toList with _ | ⟨f0, _ | ⟨f1, _ | ⟨f2, _ | ⟨f3, r⟩⟩⟩⟩
  · rw [hl] at hfl; simp at hfl
  · rw [hl] at hfl; simp at hfl
  · rw [hl] at hfl; simp at hfl
  · rw [hl] at hfl
    simp only [List.map_cons, List.map_nil, List.cons.injEq, Prod.mk.injEq] at hfl
    obtain ⟨⟨_, t0, o0⟩, ⟨_, t1, o1⟩, ⟨_, t2, o2⟩, _⟩ := hfl
    have e0 : (Try.prog.fieldsOf 23)[0]? = some f0 := by rw [← Array.getElem?_toList, hl]; rfl
    have e1 : (Try.prog.fieldsOf 23)[1]? = some f1 := by rw [← Array.getElem?_toList, hl]; rfl
    have e2 : (Try.prog.fieldsOf 23)[2]? = some f2 := by rw [← Array.getElem?_toList, hl]; rfl
    have hsz : (Try.prog.fieldsOf 23).size = 3 := by rw [← Array.length_toList, hl]; rfl
    have g0 := hf 0 f0 e0
    rw [t0, o0, zS] at g0
    have g1 := hf 1 f1 e1
    rw [t1, o1, zS] at g1
    have g2 := hf 2 f2 e2
    rw [t2, o2, zS] at g2
    rw [hsz0] at hlen
    rw [hsz] at hxl
    match cs, hlen, xs, hxl with
    | [c0, c1, c2], _, [x0, x1, x2], _ =>
      obtain ⟨v0, ha0, _, hb0⟩ := DataW.trod_string Try.underlying9 g0
      obtain ⟨v1, ha1, _, hb1⟩ := DataW.trod_string Try.underlying9 g1
      obtain ⟨v2, ha2, _, hb2⟩ := DataW.trod_string Try.underlying9 g2
      simp at ha0 ha1 ha2
      exact ⟨v0, v1, v2, by rw [ha0, ha1, ha2], hb0, hb1, hb2⟩
  · rw [hl] at hfl; simp at hfl

set_option maxRecDepth 100000 in
theorem cookie_cells {fuel : Nat} {cs : List Value} {x : DataW H × List MemPlace} (h : DataW.trod enc Try.prog w base spare held fuel 25 cs = some x) :
    ∃ (v0 : ByteArray) (v1 : Bool) (v2 : Bool) (v3 : Bool) (v4 : Bool) (v5 : Int) (v6 : Int) (v7 : Int), cs = [.string v0, .bool v1, .bool v2, .bool v3, .bool v4, .int .i64 v5, .int .i64 v6, .int .i64 v7] ∧ v0.size ≤ maxLen ∧ (Lit.int .i64 v5).wf = true ∧ (Lit.int .i64 v6).wf = true ∧ (Lit.int .i64 v7).wf = true := by
  obtain ⟨xs, n, _, _, hlen, hxl, hf⟩ := DataW.trod_struct Try.unnCk h
  have hfl := Try.flsCk
  have zB : Try.prog.cellsOf 4 = 1 := by kernel_rfl
  have zI : Try.prog.cellsOf 3 = 1 := by kernel_rfl
  have zS : Try.prog.cellsOf 9 = 1 := by kernel_rfl
  have hsz0 : Try.prog.cellsOf 25 = 8 := by kernel_rfl
  rcases hl : (Try.prog.fieldsOf 25).toList with _ | ⟨f0, _ | ⟨f1, _ | ⟨f2, _ | ⟨f3, _ | ⟨f4, _ | ⟨f5, _ | ⟨f6, _ | ⟨f7, _ | ⟨f8, r⟩⟩⟩⟩⟩⟩⟩⟩⟩
  · rw [hl] at hfl; simp at hfl
  · rw [hl] at hfl; simp at hfl
  · rw [hl] at hfl; simp at hfl
  · rw [hl] at hfl; simp at hfl
  · rw [hl] at hfl; simp at hfl
  · rw [hl] at hfl; simp at hfl
  · rw [hl] at hfl; simp at hfl
  · rw [hl] at hfl; simp at hfl
  · rw [hl] at hfl
    simp only [List.map_cons, List.map_nil, List.cons.injEq, Prod.mk.injEq] at hfl
    obtain ⟨⟨_, t0, o0⟩, ⟨_, t1, o1⟩, ⟨_, t2, o2⟩, ⟨_, t3, o3⟩, ⟨_, t4, o4⟩, ⟨_, t5, o5⟩, ⟨_, t6, o6⟩, ⟨_, t7, o7⟩, _⟩ := hfl
    have e0 : (Try.prog.fieldsOf 25)[0]? = some f0 := by rw [← Array.getElem?_toList, hl]; rfl
    have e1 : (Try.prog.fieldsOf 25)[1]? = some f1 := by rw [← Array.getElem?_toList, hl]; rfl
    have e2 : (Try.prog.fieldsOf 25)[2]? = some f2 := by rw [← Array.getElem?_toList, hl]; rfl
    have e3 : (Try.prog.fieldsOf 25)[3]? = some f3 := by rw [← Array.getElem?_toList, hl]; rfl
    have e4 : (Try.prog.fieldsOf 25)[4]? = some f4 := by rw [← Array.getElem?_toList, hl]; rfl
    have e5 : (Try.prog.fieldsOf 25)[5]? = some f5 := by rw [← Array.getElem?_toList, hl]; rfl
    have e6 : (Try.prog.fieldsOf 25)[6]? = some f6 := by rw [← Array.getElem?_toList, hl]; rfl
    have e7 : (Try.prog.fieldsOf 25)[7]? = some f7 := by rw [← Array.getElem?_toList, hl]; rfl
    have hsz : (Try.prog.fieldsOf 25).size = 8 := by rw [← Array.length_toList, hl]; rfl
    have g0 := hf 0 f0 e0
    rw [t0, o0, zS] at g0
    have g1 := hf 1 f1 e1
    rw [t1, o1, zB] at g1
    have g2 := hf 2 f2 e2
    rw [t2, o2, zB] at g2
    have g3 := hf 3 f3 e3
    rw [t3, o3, zB] at g3
    have g4 := hf 4 f4 e4
    rw [t4, o4, zB] at g4
    have g5 := hf 5 f5 e5
    rw [t5, o5, zI] at g5
    have g6 := hf 6 f6 e6
    rw [t6, o6, zI] at g6
    have g7 := hf 7 f7 e7
    rw [t7, o7, zI] at g7
    rw [hsz0] at hlen
    rw [hsz] at hxl
    match cs, hlen, xs, hxl with
    | [c0, c1, c2, c3, c4, c5, c6, c7], _, [x0, x1, x2, x3, x4, x5, x6, x7], _ =>
      obtain ⟨v0, ha0, _, hb0⟩ := DataW.trod_string Try.underlying9 g0
      obtain ⟨v1, ha1, _⟩ := DataW.trod_bool Try.underlying4 g1
      obtain ⟨v2, ha2, _⟩ := DataW.trod_bool Try.underlying4 g2
      obtain ⟨v3, ha3, _⟩ := DataW.trod_bool Try.underlying4 g3
      obtain ⟨v4, ha4, _⟩ := DataW.trod_bool Try.underlying4 g4
      obtain ⟨v5, ha5, _, hb5⟩ := DataW.trod_int Try.underlying3 g5
      obtain ⟨v6, ha6, _, hb6⟩ := DataW.trod_int Try.underlying3 g6
      obtain ⟨v7, ha7, _, hb7⟩ := DataW.trod_int Try.underlying3 g7
      simp at ha0 ha1 ha2 ha3 ha4 ha5 ha6 ha7
      exact ⟨v0, v1, v2, v3, v4, v5, v6, v7, by rw [ha0, ha1, ha2, ha3, ha4, ha5, ha6, ha7], hb0, hb5, hb6, hb7⟩
  · rw [hl] at hfl; simp at hfl

set_option maxRecDepth 100000 in
theorem item_cells {fuel : Nat} {cs : List Value} {x : DataW H × List MemPlace} (h : DataW.trod enc Try.prog w base spare held fuel 27 cs = some x) :
    ∃ q : It, cs = cI q ∧ okI q := by
  obtain ⟨xs, n, _, _, hlen, hxl, hf⟩ := DataW.trod_struct Try.unnI h
  have hfl := Try.flsI
  have z0 : Try.prog.cellsOf 23 = 3 := by kernel_rfl
  have z1 : Try.prog.cellsOf 25 = 8 := by kernel_rfl
  have hsz0 : Try.prog.cellsOf 27 = 11 := by kernel_rfl
  rcases hl : (Try.prog.fieldsOf 27).toList with _ | ⟨f0, _ | ⟨f1, _ | ⟨f2, r⟩⟩⟩
  · rw [hl] at hfl; simp at hfl
  · rw [hl] at hfl; simp at hfl
  · rw [hl] at hfl
    simp only [List.map_cons, List.map_nil, List.cons.injEq, Prod.mk.injEq] at hfl
    obtain ⟨⟨_, t0, o0⟩, ⟨_, t1, o1⟩, _⟩ := hfl
    have e0 : (Try.prog.fieldsOf 27)[0]? = some f0 := by rw [← Array.getElem?_toList, hl]; rfl
    have e1 : (Try.prog.fieldsOf 27)[1]? = some f1 := by rw [← Array.getElem?_toList, hl]; rfl
    have hsz : (Try.prog.fieldsOf 27).size = 2 := by rw [← Array.length_toList, hl]; rfl
    have g0 := hf 0 f0 e0
    rw [t0, o0, z0] at g0
    have g1 := hf 1 f1 e1
    rw [t1, o1, z1] at g1
    rw [hsz0] at hlen
    rw [hsz] at hxl
    match xs, hxl with
    | [x0, x1], _ =>
      obtain ⟨a, b, c, h1, s1, s2, s3⟩ := key_cells g0
      obtain ⟨v, b1, b2, b3, b4, i1, i2, i3, h2, s4, w1, w2, w3⟩ := cookie_cells g1
      refine ⟨⟨⟨a.toList, b.toList, c.toList⟩, ⟨v.toList, b1, b2, b3, b4, i1, i2, i3⟩⟩, ?_, ⟨by simpa [size_toList] using s1, by simpa [size_toList] using s2, by simpa [size_toList] using s3⟩, by simpa [size_toList] using s4, w1, w2, w3⟩
      have e : cs = cs.take 3 ++ (cs.drop 3).take 8 := by
        have e2 : (cs.drop 3).take 8 = cs.drop 3 := List.take_of_length_le (by rw [List.length_drop]; omega)
        rw [e2, List.take_append_drop]
      rw [List.drop_zero] at h1
      rw [e, h1, h2]
      simp [cI, cK, cCk, strV, S_of]
  · rw [hl] at hfl; simp at hfl

set_option maxRecDepth 100000 in
theorem open_items {base0 : Nat} {v : Value} {d : DataW H} {p : List MemPlace} (hval : Value.okWide Try.prog w .any base0 29 v) (h : DataW.Trod enc Try.prog w 0 (fun _ => true) true 29 v d p) :
    ∃ x : SlArg It, v = .slice x.A x.n x.c ∧ Rd w 11 (.slice x.A x.n x.c) x.n (x.l.flatMap cI) ∧ ∀ q ∈ x.l, okI q := by
  have hund : Try.prog.underlying 29 = some (.slice 27) := by kernel_rfl
  obtain ⟨a0, len0, cap0, rfl⟩ := okWide_slice hund hval
  obtain ⟨fuel, hf⟩ := h
  have h2 : Try.prog.cellsOf 27 = 11 := by kernel_rfl
  rcases open_slice hund hf with ⟨hcs, _⟩ | ⟨a, len, cap, m, n, D, Pl, hcs, hb, hl, hm, hmm, hx, hel⟩
  · simp [Value.cells] at hcs
    obtain ⟨rfl, rfl, rfl⟩ := hcs
    exact ⟨⟨none, 0, 0, []⟩, rfl, ⟨rfl, none, 0, rfl, Nat.le_refl _, by simp [maxLen], .inl rfl⟩, by simp⟩
  · simp [Value.cells] at hcs
    obtain ⟨rfl, rfl, rfl⟩ := hcs
    rw [h2] at hel
    have hlm : len0 ≤ m := by rw [hmm]; split <;> omega
    obtain ⟨l, hll, hp, hR⟩ := rd_of_cells (sz := 11) cI (fun q => rfl) (by decide) (p := okI) hl hm (fun i hi => by
      obtain ⟨cs', hc, ht⟩ := hel i (by omega)
      obtain ⟨q, rfl, hq⟩ := item_cells ht
      obtain ⟨_, _, hat⟩ := World.cells?_some hc
      refine ⟨q, hq, fun j hj => ?_⟩
      rw [← Go.Deep.add_add, hat j hj])
    exact ⟨⟨some a, len0, cap0, l⟩, rfl, hR, hp⟩
end
end Go.Proofs.Ytgfoaopfdpclhaa
namespace Go.Proofs.Ytgfoaopfdpclhaa
open Go.RowKit Go.Deep Go.WideShapes
set_option linter.unusedVariables false

theorem i64_wfU {n : Int} (h : (Lit.int .i64 n).wf = true) : -9223372036854775808 ≤ n ∧ n ≤ 9223372036854775807 := by
  simp [Lit.wf, IntKind.min, IntKind.max, IntKind.signed, IntKind.bits] at h
  exact ⟨by omega, by omega⟩
theorem plain_leU {s t : List UInt8} {n : Int} (h : plainB s n t = true) : (s.length : Int) ≤ n := by
  unfold plainB at h
  simp only [Bool.and_eq_true, decide_eq_true_eq] at h
  exact h.1
theorem line_lenU {x : It} {t : List UInt8} (h : lineO x = some t) : t.length ≤ x.k.d.length + 1700 := by
  obtain ⟨h1, h2, h3, h4, rfl⟩ := lineO_parts h
  have ht := right_time h1
  unfold rightI at h1
  simp only [Bool.and_eq_true, decide_eq_true_eq] at h1
  have l1 := plain_leU h1.2.1
  have l2 := plain_leU h1.2.2.1
  have l3 := h1.2.2.2.2.2.2.1
  have le : (expL x).length ≤ 21 := by
    unfold expL
    split
    · unfold timeR inB at ht
      simp only [Bool.and_eq_true, decide_eq_true_eq] at ht
      exact textL_len46 _ (by omega) (by omega)
    · decide
  have a : ∀ b, (truthL b).length ≤ 5 := by intro b; cases b <;> decide
  have hd : (headL x).length ≤ 11 := by
    unfold headL
    split <;> split <;> decide
  have a1 := a (!x.c.ho)
  have a2 := a x.c.se
  show (Lib.join [headL x ++ x.k.d, truthL (!x.c.ho), x.k.p, truthL x.c.se, expL x, x.k.n, x.c.v] [9]).length ≤ _
  unfold Lib.join
  rw [inter_cons, inter_cons, inter_cons, inter_cons, inter_cons, inter_cons]
  simp [List.intercalate]
  omega
theorem ltI_mdU {x : It} (h : ltI x = true) : MdI x ∧ x.k.d.length ≤ 2000 := by
  unfold ltI at h
  simp only [Bool.and_eq_true, decide_eq_true_eq] at h
  exact ⟨⟨by omega, by omega, by omega, by omega⟩, by omega⟩
theorem lineS_len {x : It} (h : ltI x = true) : (lineS x).length ≤ 3700 := by
  cases hl : lineO x with
  | none => rw [(lineS_none hl).1]; simp
  | some t =>
    rw [(lineS_some hl).1]
    have := line_lenU hl
    have := (ltI_mdU h).2
    omega
theorem sum_le {l : List It} (h : ∀ x ∈ l, ltI x = true) : sumT l ≤ l.length * 3701 := by
  induction l with
  | nil => exact Nat.zero_le _
  | cons a r ih =>
    have h1 := lineS_len (h a (by simp))
    have h2 := ih fun x hx => h x (List.mem_cons_of_mem _ hx)
    rw [sumT_cons, List.length_cons]
    omega
theorem text_bad {l : List It} (h : badT l = true) : textS l = [] ∧ textE l = 1 := by
  have e : textE l = 1 := by unfold textE; rw [h]; rfl
  exact ⟨by unfold textS; rw [e]; rfl, e⟩
theorem text_twice {l : List It} (h : badT l = false) (hk : (byKeysL l).length < l.length) : textS l = [] ∧ textE l = 11 := by
  have e : textE l = 11 := by unfold textE; rw [h, puts_keys, if_pos hk]; rfl
  exact ⟨by unfold textS; rw [e]; rfl, e⟩
theorem text_good {l : List It} (h : badT l = false) (hk : ¬ (byKeysL l).length < l.length) (hs : sumT l ≤ 1000000) : textS l = linesT (byKeysL l) ∧ textE l = 0 ∧ sumT (byKeysL l) ≤ 1000000 := by
  have hp : putsT [] l = some (byKeysL l) := by rw [puts_keys, if_neg hk]
  have hu := puts_sum _ hp
  have hu2 : sumT (byKeysL l) ≤ 1000000 := by have : sumT [] = 0 := rfl; omega
  have e : textE l = 0 := by
    unfold textE
    rw [h, hp, if_neg (by simp), if_neg (by simp), if_neg]
    show ¬ (linesT (byKeysL l)).length > 1048576
    rw [lines_len]; omega
  exact ⟨by unfold textS; rw [if_pos e, hp]; rfl, e, hu2⟩
theorem bad_keys {l : List It} (h : badT l = false) : badT (byKeysL l) = false := by
  unfold badT at *
  rw [List.any_eq_false] at *
  exact fun x hx => h x (byKeys_in hx)
set_option maxRecDepth 100000 in
set_option maxHeartbeats 8000000 in
theorem exportTexts0 (A : Option Addr) (c : Nat) (l : List It) (now : Int) (w : World) (h : Rd w 11 (.slice A l.length c) l.length (l.flatMap cI)) (hn1 : -9223372036854775808 ≤ now) (hn2 : now ≤ 9223372036854775807) :
    Calls Try.prog 5 #[.slice A l.length c, .int .i64 now] w fun e w' => e = .returned (.bool true) ∧ Below w.heap.size w w' := by
  have hcap := h.cap
  have hml : l.length ≤ maxLen := by omega
  unfold maxLen at hcap
  obtain ⟨hca, hcb⟩ := hcap
  go_enter Try.func5, Try.ntmps5
  go_wp2_with fail
  refine (light_any A c l w hml h).mono ?_
  rintro e w1 ⟨rfl, hB1⟩
  clear hml
  cases hla : ltL l with
  | false =>
    go_wp2_with (go_at_call 8; refine (awake_any _).mono ?_; rintro e w99 ⟨rfl, hb99⟩)
    go_ret
    exact ⟨rfl, bel_call hB1 hb99⟩
  | true =>
    have hlt : l.length ≤ 20 ∧ ∀ x ∈ l, ltI x = true := by
      unfold ltL at hla
      simp only [Bool.and_eq_true, decide_eq_true_eq, List.all_eq_true] at hla
      exact hla
    obtain ⟨h20, hti⟩ := hlt
    have hsm := sum_le hti
    have hsum : sumT l ≤ 1000000 := by omega
    have hmd : ∀ x ∈ l, MdI x := fun x hx => (ltI_mdU (hti x hx)).1
    clear hla hsm
    go_wp2_with fail
    refine (text46_any A c l _ (h.below hB1) (by omega) hmd hsum).mono ?_
    rintro e w2 ⟨rfl, hb2⟩
    have hB2 := bel_call hB1 hb2
    clear hB1 hb2
    generalize hTS : textS l = TS at *
    generalize hTE : textE l = TE at *
    go_wp2_with fail
    go_loopw [8] (fun i wr => ∃ j : Nat, j ≤ l.length ∧ i = .int .i64 j ∧ Below w.heap.size w wr ∧ Hid (badT (l.take j) = false)) (fun i _ => l.length - (intOf i).toNat)
    case atStart => exact ⟨0, Nat.zero_le _, rfl, hB2, rfl⟩
    case round =>
      obtain ⟨j, hj, rfl, hbel, hno⟩ := hrel
      clear hB2
      by_cases hltj : j < l.length
      · have hji : (j : Int) < l.length := by omega
        have hj0 : (0 : Int) ≤ (j : Int) := by omega
        obtain ⟨b, off, rfl, hb, hx⟩ := (h.below hbel).items hltj
        obtain ⟨hxi, hxk⟩ := hx j hltj
        clear hx hxk
        have hmj := hmd _ (List.getElem_mem hltj)
        have hnx : Hid (badT (l.take (j + 1)) = (lineO l[j]).isNone) := by
          show _ = _
          unfold badT at *
          rw [List.take_succ_eq_append_getElem hltj, List.any_append, show (l.take j).any (fun x => (lineO x).isNone) = false from hno.out]
          simp
        have hbad : Hid ((lineO l[j]).isNone = true → badT l = true) := fun e => List.any_eq_true.2 ⟨l[j], List.getElem_mem hltj, e⟩
        clear hno
        go_wp2_with fail
        refine (refLine_any l[j] _ hmj).mono ?_
        rintro e w3 ⟨rfl, hb3⟩
        have hB3 := bel_call hbel hb3
        clear hbel hb3 hxi hb
        unfold refLineV
        cases hq : lineO l[j] with
        | none =>
          have hbd := text_bad (hbad.out (by rw [hq]; rfl))
          rw [hTS, hTE] at hbd
          obtain ⟨rfl, rfl⟩ := hbd
          clear hbad hnx hq hTS hTE
          go_wp2_with (go_at_call 8; refine (awake_any _).mono ?_; rintro e w99 ⟨rfl, hb99⟩)
          go_ret
          exact ⟨rfl, bel_call hB3 hb99⟩
        | some t =>
          have hn3 : Hid (badT (l.take (j + 1)) = false) := by show _ = _; rw [hnx.out, hq]; rfl
          clear hnx hbad hq
          go_wp2
          go_roundw
          case rel => exact ⟨j + 1, by omega, by go_num, hB3, hn3⟩
          case measure => simp [intOf]; omega
      · obtain rfl : j = l.length := by omega
        have hbd : Hid (badT l = false) := by have := hno.out; rwa [List.take_length] at this
        clear hno
        go_wp2_with fail
        refine (byKeys_any A l.length c l _ (h.below hbel) (by omega)).mono ?_
        rintro e w3 ⟨A3, c3, rfl, ho3, hb3⟩
        have hB3 := bel_call hbel hb3
        have hR3 := Rd.of_own ho3
        clear hbel ho3 hb3
        by_cases hk : (byKeysL l).length < l.length
        · have hkI : ((byKeysL l).length : Int) < l.length := by omega
          have hbd2 := text_twice hbd.out hk
          rw [hTS, hTE] at hbd2
          obtain ⟨rfl, rfl⟩ := hbd2
          clear hTS hTE hR3 hbd hk
          go_wp2_with (go_at_call 8; refine (awake_any _).mono ?_; rintro e w99 ⟨rfl, hb99⟩)
          go_ret
          exact ⟨rfl, bel_call hB3 hb99⟩
        · have hkI : ¬ (((byKeysL l).length : Int) < l.length) := by omega
          have hbd2 := text_good hbd.out hk hsum
          rw [hTS, hTE] at hbd2
          obtain ⟨hTS2, rfl, hsu⟩ := hbd2
          have hris := byKeys_ris l
          have hbk := bad_keys hbd.out
          have hmk : ∀ x ∈ byKeysL l, MdI x ∧ ltI x = true := fun x hx => ⟨hmd x (byKeys_in hx), hti x (byKeys_in hx)⟩
          have hk20 : (byKeysL l).length ≤ 20 := by have := puts_len l (out := []) (o := byKeysL l) (by rw [puts_keys, if_neg hk]); simp at this; omega
          clear hTS hTE hbd hk hti hmd hsum h20
          generalize byKeysL l = K at *
          subst hTS2
          have hstart : Value.string ByteArray.empty = .string (S (linesT (K.take 0))) := rfl
          have hkd := Lib.hid (show decide (K.length < l.length) = false from decide_eq_false (by omega))
          go_wp2_with fail
          rw [hkd.out]
          go_loopw [7, 12] (fun vw i wx => ∃ j : Nat, j ≤ K.length ∧ i = .int .i64 j ∧ vw = .string (S (linesT (K.take j))) ∧ Below w.heap.size w wx ∧ Rd wx 11 (.slice A3 K.length c3) K.length (K.flatMap cI)) (fun _ i _ => K.length - (intOf i).toNat)
          case atStart => exact ⟨0, Nat.zero_le _, rfl, rfl, hB3, hR3⟩
          case round =>
            obtain ⟨j, hj2, rfl, rfl, hbel, hR⟩ := hrel
            clear hB3 hR3
            by_cases hltk : j < K.length
            · have hji : (j : Int) < K.length := by omega
              have hj0 : (0 : Int) ≤ (j : Int) := by omega
              obtain ⟨b, off, rfl, hb, hx⟩ := hR.items hltk
              obtain ⟨hxi, hxk⟩ := hx j hltk
              clear hx hxk
              have hmj := (hmk _ (List.getElem_mem hltk)).1
              have hsl := sum_mem (List.getElem_mem hltk)
              have hst := sum_take K j
              rw [← lines_len] at hst
              have hnx := Lib.hid (lines_take hltk)
              generalize linesT (K.take j) = Lj at *
              go_wp2_with fail
              refine (refLine_any K[j] _ hmj).mono ?_
              rintro e w4 ⟨rfl, hb4⟩
              have hB4 := bel_call hbel hb4
              have hR4 := hR.below hb4
              clear hbel hR hxi hb hb4 hmj
              unfold refLineV
              generalize lineS K[j] = t at *
              generalize (lineO K[j]).isSome = q at *
              have hc1 : ¬ (9223372036854775807 < Lj.length + t.length) := by omega
              have hc2 : ¬ (9223372036854775807 < Lj.length + t.length + 1) := by omega
              have hc3 : ¬ (9223372036854775807 < Lj.length + (t.length + 1)) := by omega
              go_wp2
              go_roundw
              case rel => exact ⟨j + 1, by omega, by go_num, by rw [hnx.out, ← List.append_assoc]; exact congrArg Value.string (S_cat (Lj ++ t) [10]), hB4, hR4⟩
              case measure => simp [intOf]; omega
            · obtain rfl : j = K.length := by omega
              rw [List.take_length]
              have hm : ∀ x ∈ K, lineO x = some (lineS x) := fun x hx => badT_mem hbk hx
              have hsp := split_lines K hm
              have hrd := read_text now hbk hris
              have hp : ∀ p ∈ splitL (linesT K) 10, p.length ≤ 100000 := fun p hp => by
                rw [hsp] at hp
                rcases List.mem_append.1 hp with hp | hp
                · obtain ⟨x, hx, rfl⟩ := List.mem_map.1 hp
                  have := lineS_len (hmk x hx).2
                  omega
                · rw [List.mem_singleton.1 hp]; simp
              have hq : (splitL (linesT K) 10).length ≤ 90000 := by rw [hsp]; simp; omega
              have hlen : (linesT K).length ≤ 1000000 := by rw [lines_len]; exact hsu
              clear hm hsp hbk hris hmk
              go_wp2_with fail
              refine (read46_any (linesT K) now _ hlen hp hq hn1 hn2).mono ?_
              rintro e w5 ⟨A5, c5, rfl, ho5, hb5⟩
              rw [hrd] at ho5 ⊢
              simp only at ho5 ⊢
              have hB5 := bel_call hbel hb5
              have hR5 := hR.below hb5
              have hX5 := Rd.of_own ho5
              clear hrd hp hq hlen hbel hR ho5 hb5
              generalize linesT K = T at *
              generalize hG : K.map (fun x => agedX x (clampT now)) = G at *
              have hGl : Hid (K.length = G.length) := by show _ = _; rw [← hG]; simp
              go_wp2_with fail
              refine (aged_any A3 c3 K (clampT now) _ hR5 (by omega)).mono ?_
              rintro e w6 ⟨A6, c6, rfl, ho6, hb6⟩
              rw [hG] at ho6 ⊢
              have hB6 := bel_call hB5 hb6
              have hX6 := hX5.below hb6
              have hY6 := Rd.of_own ho6
              clear hB5 hR5 hX5 ho6 hb6 hG hGl
              go_wp2_with fail
              refine (sameI_any A5 A6 _ c5 _ c6 G G _ hX6 hY6).mono ?_
              rintro e w7 ⟨rfl, hb7⟩
              rw [show decide (G = G) = true from decide_eq_true rfl]
              have hB7 := bel_call hB6 hb7
              clear hB6 hX6 hY6 hb7
              go_wp2_with (go_at_call 8; refine (awake_any _).mono ?_; rintro e w99 ⟨rfl, hb99⟩)
              go_ret
              exact ⟨rfl, bel_call hB7 hb99⟩
/-- The law. -/
theorem exportTexts (x : SlArg It) (now : Int) (w : World) (hx : Rd w 11 (.slice x.A x.n x.c) x.n (x.l.flatMap cI) ∧ ∀ q ∈ x.l, okI q) (hn : (Lit.int .i64 now).wf = true) :
    Calls Try.prog 5 #[.slice x.A x.n x.c, .int .i64 now] w fun e w' => e = .returned (.bool true) ∧ Below w.heap.size w w' := by
  obtain ⟨A, n, c, l⟩ := x
  obtain ⟨hR, _⟩ := hx
  simp only at hR ⊢
  obtain rfl := hR.rows (sz := 11) (f := cI) (fun q => rfl) (by decide)
  exact exportTexts0 A c l now w hR (i64_wfU hn).1 (i64_wfU hn).2
end Go.Proofs.Ytgfoaopfdpclhaa
