/- witsame.Entries, whatever the entries. -/
import Derived.Test.YtdpfebokbikgfaaDoorLeafs
import Derived.Lib.SlicesS
import Derived.Test.YtdpfebokbikgfaaDoorR6
import Derived.Test.YtdpfebokbikgfaaDoorTot
import Derived.BigRegion
import Derived.Test.YtdpfebokbikgfaaDoorMirQ
import Derived.Test.YtdpfebokbikgfaaDoorSrvH
import Derived.Test.YtdpfebokbikgfaaDoorUnpack
import Derived.Test.YtdpfebokbikgfaaDoorPCheck
import Derived.Test.YtdpfebokbikgfaaDoorUp
namespace Go.Proofs.YtdpfebokbikgfaaDoor
open Go.RowKit
set_option linter.unusedVariables false
attribute [local go_sem ↓] Go.wp_at_zero Go.wp_at_succ

theorem ent_ext {a b : Ent} (h1 : a.time = b.time) (h2 : a.data = b.data) : a = b := by
  obtain ⟨_, _⟩ := a
  obtain ⟨_, _⟩ := b
  simp only at h1 h2
  subst h1 h2
  rfl
set_option maxRecDepth 100000 in
set_option maxHeartbeats 1000000 in
theorem Entries_not (A A' : Option Addr) (n n' c c' : Nat) (es es' : List Ent) (w : World) (hr : Rd w 2 A n c (es.flatMap Ent.cells)) (hr' : Rd w 2 A' n' c' (es'.flatMap Ent.cells)) (hm : n ≤ 9223372036854775807) (hm' : n' ≤ 9223372036854775807) (hne : es ≠ es') :
    Calls Tryd.prog 9 #[.slice A n c, .slice A' n' c'] w fun e w' => e = .returned (.bool false) ∧ Ext w w' := by
  have HX := Lib.hid hr.lenE
  have HX' := Lib.hid hr'.lenE
  have hl := hr.2.1
  have hl' := hr'.2.1
  have HNE := Lib.hid hne
  clear hne
  by_cases hnn : n = n'
  · subst hnn
    have H0 : Hid (es.take 0 = es'.take 0) := rfl
    go_enter Tryd.func9, Tryd.ntmps9
    go_wp2_with fail
    go_loopw [5] (fun x wr => ∃ j : Nat, x = .int .i64 j ∧ j ≤ n ∧ Ext w wr ∧ Hid (es.take j = es'.take j)) (fun x _ => n - (intOf x).toNat)
    case atStart => exact ⟨0, rfl, Nat.zero_le _, by (repeat (with_reducible first | exact Ext.refl _ | assumption | refine Ext.drew ?_ | refine Ext.drewN ?_ _ | refine Ext.alloc ?_ _ | refine Ext.trans ?_ (by with_reducible assumption))), H0⟩
    case round =>
      obtain ⟨j, rfl, hj, hbw, htk⟩ := hrel
      by_cases hc : j < n
      · have hgj := List.getElem?_eq_getElem (l := es) (i := j) (by rw [HX.out]; exact hc)
        have hgj' := List.getElem?_eq_getElem (l := es') (i := j) (by rw [HX'.out]; exact hc)
        obtain ⟨ad, rfl, hb, c0, c1⟩ := (hr.ext hbw).getE hgj
        obtain ⟨ad', rfl, hb', c0', c1'⟩ := (hr'.ext hbw).getE hgj'
        have hstep : es[j]'(by rw [HX.out]; exact hc) = es'[j]'(by rw [HX'.out]; exact hc) → es.take (j + 1) = es'.take (j + 1) := fun h => by
          rw [List.take_succ_eq_append_getElem (by rw [HX.out]; exact hc), List.take_succ_eq_append_getElem (by rw [HX'.out]; exact hc), htk.out, h]
        generalize es[j]'(by rw [HX.out]; exact hc) = e at *
        generalize es'[j]'(by rw [HX'.out]; exact hc) = e' at *
        obtain ⟨et, ed⟩ := e
        obtain ⟨ft, fd⟩ := e'
        simp only at c0 c1 c0' c1'
        have HST := Lib.hid hstep
        have hcN : (j : Int) < (n : Int) := by omega
        clear hgj hgj' hstep
        by_cases h1 : et = ft
        · subst h1
          by_cases h2 : ed = fd
          · subst h2
            have HT := Lib.hid (HST.out rfl)
            go_wp2_with fail
            go_quiet (fail)
            go_wp2_with fail
            go_roundw
            case rel => exact ⟨j + 1, by go_num, by omega, by (repeat (with_reducible first | exact Ext.refl _ | assumption | refine Ext.drew ?_ | refine Ext.drewN ?_ _ | refine Ext.alloc ?_ _ | refine Ext.trans ?_ (by with_reducible assumption))), HT⟩
            case measure => simp [intOf]; omega
          · have b2 := (Lib.bytes_beq_false_iff ed fd).2 h2
            clear h2
            go_wp2_with fail
            go_quiet (fail)
            go_wp2_with fail
            go_ret
            exact ⟨rfl, by (repeat (with_reducible first | exact Ext.refl _ | assumption | refine Ext.drew ?_ | refine Ext.drewN ?_ _ | refine Ext.alloc ?_ _ | refine Ext.trans ?_ (by with_reducible assumption)))⟩
        · have b1 : (et == ft) = false := beq_eq_false_iff_ne.2 h1
          clear h1
          go_wp2_with fail
          go_quiet (fail)
          go_wp2_with fail
          go_ret
          exact ⟨rfl, by (repeat (with_reducible first | exact Ext.refl _ | assumption | refine Ext.drew ?_ | refine Ext.drewN ?_ _ | refine Ext.alloc ?_ _ | refine Ext.trans ?_ (by with_reducible assumption)))⟩
      · exfalso
        obtain rfl : j = n := by omega
        refine HNE.out ?_
        have h := htk.out
        rw [List.take_of_length_le (by rw [HX.out]; exact Nat.le_refl _), List.take_of_length_le (by rw [HX'.out]; exact Nat.le_refl _)] at h
        exact h
  · have hnb : ((n : Int) == (n' : Int)) = false := beq_eq_false_iff_ne.2 (fun h => hnn (by omega))
    clear hnn
    go_enter Tryd.func9, Tryd.ntmps9
    go_wp2_with fail
    go_ret
    exact ⟨rfl, by (repeat (with_reducible first | exact Ext.refl _ | assumption | refine Ext.drew ?_ | refine Ext.drewN ?_ _ | refine Ext.alloc ?_ _ | refine Ext.trans ?_ (by with_reducible assumption)))⟩
set_option maxRecDepth 100000 in
theorem Entries_yes (A A' : Option Addr) (n c c' : Nat) (es : List Ent) (w : World) (hr : Rd w 2 A n c (es.flatMap Ent.cells)) (hr' : Rd w 2 A' n c' (es.flatMap Ent.cells)) (hm : n ≤ 9223372036854775807) :
    Calls Tryd.prog 9 #[.slice A n c, .slice A' n c'] w fun e w' => e = .returned (.bool true) ∧ Ext w w' := by
  have HX := Lib.hid hr.lenE
  have hl := hr.2.1
  have hl' := hr'.2.1
  go_enter Tryd.func9, Tryd.ntmps9
  go_wp2_with fail
  go_loopw [5] (fun x wr => ∃ j : Nat, x = .int .i64 j ∧ j ≤ n ∧ Ext w wr) (fun x _ => n - (intOf x).toNat)
  case atStart => exact ⟨0, rfl, Nat.zero_le _, by (repeat (with_reducible first | exact Ext.refl _ | assumption | refine Ext.drew ?_ | refine Ext.drewN ?_ _ | refine Ext.alloc ?_ _ | refine Ext.trans ?_ (by with_reducible assumption)))⟩
  case round =>
    obtain ⟨j, rfl, hj, hbw⟩ := hrel
    by_cases hc : j < n
    · have hgj := List.getElem?_eq_getElem (l := es) (i := j) (by rw [HX.out]; exact hc)
      obtain ⟨ad, rfl, hb, c0, c1⟩ := (hr.ext hbw).getE hgj
      obtain ⟨ad', rfl, hb', c0', c1'⟩ := (hr'.ext hbw).getE hgj
      generalize es[j]'(by rw [HX.out]; exact hc) = e at *
      have hcN : (j : Int) < (n : Int) := by omega
      go_wp2_with fail
      go_quiet (fail)
      go_wp2_with fail
      go_roundw
      case rel => exact ⟨j + 1, by go_num, by omega, by (repeat (with_reducible first | exact Ext.refl _ | assumption | refine Ext.drew ?_ | refine Ext.drewN ?_ _ | refine Ext.alloc ?_ _ | refine Ext.trans ?_ (by with_reducible assumption)))⟩
      case measure => simp [intOf]; omega
    · go_wp2_with fail
      go_ret
      exact ⟨rfl, by (repeat (with_reducible first | exact Ext.refl _ | assumption | refine Ext.drew ?_ | refine Ext.drewN ?_ _ | refine Ext.alloc ?_ _ | refine Ext.trans ?_ (by with_reducible assumption)))⟩
/-- are two lists the same? -/
noncomputable def entsB (es es' : List Ent) : Bool := @decide (es = es') (Classical.propDecidable _)
theorem Entries_any (A A' : Option Addr) (n n' c c' : Nat) (es es' : List Ent) (w : World) (hr : Rd w 2 A n c (es.flatMap Ent.cells)) (hr' : Rd w 2 A' n' c' (es'.flatMap Ent.cells)) (hm : c ≤ maxLen) (hm' : c' ≤ maxLen) :
    Calls Tryd.prog 9 #[.slice A n c, .slice A' n' c'] w fun e w' => e = .returned (.bool (entsB es es')) ∧ Ext w w' := by
  have h1 := hr.2.1
  have h2 := hr'.2.1
  unfold maxLen at hm hm'
  by_cases h : es = es'
  · subst h
    have hn : n' = n := hr'.lenE.symm.trans hr.lenE
    subst hn
    have hb : entsB es es = true := @decide_eq_true _ (Classical.propDecidable _) rfl
    rw [hb]
    exact Entries_yes A A' _ c c' es w hr hr' (by omega)
  · have hb : entsB es es' = false := by
      cases hq : entsB es es' with
      | false => rfl
      | true => exact absurd (@of_decide_eq_true _ (Classical.propDecidable _) hq) h
    rw [hb]
    exact Entries_not A A' n n' c c' es es' w hr hr' (by omega) (by omega) h
end Go.Proofs.YtdpfebokbikgfaaDoor

/- Two lists of one root: where they clash. The references' Clash, the program's Collide. -/
namespace Go.Proofs.YtdpfebokbikgfaaDoor
open Go.RowKit Go.WideShapes
set_option linter.unusedVariables false
attribute [local go_sem ↓] Go.wp_at_zero Go.wp_at_succ

/-! ### plain -/
def str0 (s : ByteArray) : ByteArray := ⟨#[0]⟩ ++ s
def topB (k : Nat) (a : List ByteArray) : List UInt8 := nodeB (ofL ((sumsD a).take k)) (ofL ((sumsD a).drop k))
def topS (k : Nat) (a : List ByteArray) : ByteArray := ⟨(topB k a).toArray⟩
def clashL (a b : List ByteArray) : ByteArray × ByteArray :=
  if h : 2 ≤ a.length ∧ half a.length < a.length then
    if topB (half a.length) a ≠ topB (half a.length) b then (topS (half a.length) a, topS (half a.length) b)
    else if a.take (half a.length) ≠ b.take (half a.length) then clashL (a.take (half a.length)) (b.take (half a.length))
    else clashL (a.drop (half a.length)) (b.drop (half a.length))
  else (str0 (a.headD ⟨#[]⟩), str0 (b.headD ⟨#[]⟩))
termination_by a.length
decreasing_by
  · rw [List.length_take]; omega
  · rw [List.length_drop]; have := half_pos a.length; omega
theorem clashL_one (x y : ByteArray) : clashL [x] [y] = (str0 x, str0 y) := by rw [clashL, dif_neg (by simp)]; rfl
theorem clashL_top {a b : List ByteArray} (h2 : 2 ≤ a.length) (hn : a.length ≤ 4096) (h : topB (half a.length) a ≠ topB (half a.length) b) : clashL a b = (topS (half a.length) a, topS (half a.length) b) := by
  rw [clashL, dif_pos ⟨h2, half_lt h2 hn⟩, if_pos h]
theorem clashL_left {a b : List ByteArray} (h2 : 2 ≤ a.length) (hn : a.length ≤ 4096) (h : topB (half a.length) a = topB (half a.length) b) (h' : a.take (half a.length) ≠ b.take (half a.length)) : clashL a b = clashL (a.take (half a.length)) (b.take (half a.length)) := by
  rw [clashL, dif_pos ⟨h2, half_lt h2 hn⟩, if_neg (not_not_intro h), if_pos h']
theorem clashL_right {a b : List ByteArray} (h2 : 2 ≤ a.length) (hn : a.length ≤ 4096) (h : topB (half a.length) a = topB (half a.length) b) (h' : a.take (half a.length) = b.take (half a.length)) : clashL a b = clashL (a.drop (half a.length)) (b.drop (half a.length)) := by
  rw [clashL, dif_pos ⟨h2, half_lt h2 hn⟩, if_neg (not_not_intro h), if_neg (not_not_intro h')]
theorem topS_ne {k : Nat} {a b : List ByteArray} (h : topB k a ≠ topB k b) : (topS k a).toList ≠ (topS k b).toList := by
  intro e
  apply h
  have h1 := congrArg ByteArray.toList (rfl : topS k a = topS k a)
  have h2 : topS k a = topS k b := by
    have := (Lib.bytes_beq_false_iff (topS k a) (topS k b))
    rcases Classical.em (topS k a = topS k b) with he | he
    · exact he
    · have h3 := this.2 he
      rw [e] at h3
      simp at h3
  have h4 := congrArg (fun s : ByteArray => s.data.toList) h2
  simpa [topS] using h4

/-! ### the references' -/
end Go.Proofs.YtdpfebokbikgfaaDoor

namespace Go.Proofs.YtdpfebokbikgfaaDoor
open Go.RowKit Go.WideShapes
set_option linter.unusedVariables false
attribute [local go_sem ↓] Go.wp_at_zero Go.wp_at_succ

theorem RTop_any (k : Nat) (a : List ByteArray) (w : World) (hl : a.length ≤ 4096) :
    Calls Tryd.prog 118 #[.int .i64 (ofL ((sumsD a).take k)), .int .i64 (ofL ((sumsD a).drop k))] w fun e w' => e = .returned (.string (topS k a)) ∧ Ext w w' :=
  RNodeBytes_any _ _ w (vld_ofL (allV_take (allV_sumsD a) k) (by rw [List.length_take, sumsD_len]; omega)) (vld_ofL (allV_drop (allV_sumsD a) k) (by rw [List.length_drop, sumsD_len]; omega))
theorem zeroClash (w : World) : Bk (w.alloc (.cells #[.string ⟨#[]⟩, .string ⟨#[]⟩] 44)) w.heap.size 44 #[.string ⟨#[]⟩, .string ⟨#[]⟩] := Bk.at_ _ _ _ _ rfl

end Go.Proofs.YtdpfebokbikgfaaDoor

namespace Go.Proofs.YtdpfebokbikgfaaDoor
open Go.RowKit Go.WideShapes
set_option linter.unusedVariables false
attribute [local go_sem ↓] Go.wp_at_zero Go.wp_at_succ

set_option maxRecDepth 100000 in
theorem SEq_any (A A' : Option Addr) (n n' c c' : Nat) (xs ys : List ByteArray) (w : World) (hr : Rd w 1 A n c (xs.map Value.string)) (hr' : Rd w 1 A' n' c' (ys.map Value.string)) (hm : c ≤ maxLen) (hm' : c' ≤ maxLen) :
    Calls Tryd.prog 43 #[.slice A n c, .slice A' n' c'] w fun e w' => e = .returned (.bool (sameB xs ys)) ∧ Ext w w' := by
  have HX := Lib.hid hr.lenS
  have HY := Lib.hid hr'.lenS
  have hl := hr.2.1
  have hl' := hr'.2.1
  unfold maxLen at hm hm'
  by_cases hn : n = n'
  · subst hn
    go_enter Tryd.func43, Tryd.ntmps43
    go_wp2_with fail
    go_loopw [13] (fun x wr => ∃ j : Nat, x = .int .i64 j ∧ j ≤ n ∧ Ext w wr ∧ Hid (xs.take j = ys.take j)) (fun x _ => n - (intOf x).toNat)
    case atStart => exact ⟨0, rfl, Nat.zero_le _, by (repeat (with_reducible first | exact Ext.refl _ | assumption | refine Ext.drew ?_ | refine Ext.drewN ?_ _ | refine Ext.alloc ?_ _ | refine Ext.trans ?_ (by with_reducible assumption))), rfl⟩
    case round =>
      obtain ⟨j, rfl, hj, hbw, HK⟩ := hrel
      by_cases hc : j < n
      · have h1 := List.getElem?_eq_getElem (l := xs) (i := j) (by rw [HX.out]; exact hc)
        have h2 := List.getElem?_eq_getElem (l := ys) (i := j) (by rw [HY.out]; exact hc)
        generalize xs[j]'(by rw [HX.out]; exact hc) = y at *
        generalize ys[j]'(by rw [HY.out]; exact hc) = z at *
        obtain ⟨ad, rfl, hb, c0⟩ := (hr.ext hbw).getS h1
        obtain ⟨ad', rfl, hb', c0'⟩ := (hr'.ext hbw).getS h2
        have hcN : (j : Int) < (n : Int) := by omega
        have h0N : (0 : Int) ≤ (j : Int) := by omega
        by_cases e : y = z
        · subst e
          have HT := Lib.hid (take_same HK.out h1 h2)
          clear h1 h2
          go_wp2_with fail
          go_quiet (fail)
          go_wp2_with fail
          go_roundw
          case rel => exact ⟨j + 1, by go_num, by omega, by (repeat (with_reducible first | exact Ext.refl _ | assumption | refine Ext.drew ?_ | refine Ext.drewN ?_ _ | refine Ext.alloc ?_ _ | refine Ext.trans ?_ (by with_reducible assumption))), HT⟩
          case measure => simp [intOf]; omega
        · have HT := Lib.hid (sameB_no (take_part h1 h2 e))
          have e1 := (Lib.bytes_beq_false_iff y z).2 e
          clear h1 h2 e
          go_wp2_with fail
          go_quiet (fail)
          go_wp2_with fail
          go_ret
          exact ⟨ret_bool HT.out.symm, by (repeat (with_reducible first | exact Ext.refl _ | assumption | refine Ext.drew ?_ | refine Ext.drewN ?_ _ | refine Ext.alloc ?_ _ | refine Ext.trans ?_ (by with_reducible assumption)))⟩
      · obtain rfl : j = n := by omega
        have HT := Lib.hid (sameB_yes (take_whole HK.out HX.out HY.out))
        go_wp2_with fail
        go_ret
        exact ⟨ret_bool HT.out.symm, by (repeat (with_reducible first | exact Ext.refl _ | assumption | refine Ext.drew ?_ | refine Ext.drewN ?_ _ | refine Ext.alloc ?_ _ | refine Ext.trans ?_ (by with_reducible assumption)))⟩
  · have HT : Hid (sameB xs ys = false) := sameB_no (by intro e; rw [e, HY.out] at HX; exact hn HX.out.symm)
    have e1 : ((n : Int) != (n' : Int)) = true := by simp; omega
    clear hn
    go_enter Tryd.func43, Tryd.ntmps43
    go_wp2_with fail
    go_ret
    exact ⟨ret_bool HT.out.symm, by (repeat (with_reducible first | exact Ext.refl _ | assumption | refine Ext.drew ?_ | refine Ext.drewN ?_ _ | refine Ext.alloc ?_ _ | refine Ext.trans ?_ (by with_reducible assumption)))⟩

def allS (l : List ByteArray) : Bool := l.all fun s => decide (s.size ≤ 200)
theorem allS_snoc {l : List ByteArray} {k : Nat} {z : ByteArray} (hz : l[k]? = some z) : allS (l.take (k + 1)) = (allS (l.take k) && decide (z.size ≤ 200)) := by
  obtain ⟨h, rfl⟩ := List.getElem?_eq_some_iff.1 hz
  unfold allS
  rw [List.take_succ_eq_append_getElem h, List.all_append]
  simp only [List.all_cons, List.all_nil, Bool.and_true]
theorem allS_no {l : List ByteArray} {k : Nat} {z : ByteArray} (hz : l[k]? = some z) (hv : ¬ z.size ≤ 200) : allS l = false := by
  cases h : allS l
  · rfl
  · exact absurd (of_decide_eq_true (List.all_eq_true.1 h z (List.mem_of_getElem? hz))) hv
theorem dataK_allS {l : List ByteArray} (h : l.length ≤ 200) : dataK l = if allS l = true then 0 else 4 := by
  cases hs : allS l
  · rw [if_neg (by decide)]
    refine dataK_bad fun hk => ?_
    have : allS l = true := List.all_eq_true.2 fun s hs => decide_eq_true (hk.2 s hs)
    rw [hs] at this; cases this
  · rw [if_pos rfl]
    exact dataK_ok ⟨h, fun s hm => of_decide_eq_true (List.all_eq_true.1 hs s hm)⟩
theorem tlong_any (s : ByteArray) (w : World) : Calls Tryd.prog 74 #[.string s] w fun e w' => e = .returned (.bool (decide (200 < s.size))) ∧ w = w' := by
  by_cases h : 200 < s.size
  · rw [decide_eq_true h]
    go_enter Tryd.func74, Tryd.ntmps74
    go_wp2_with fail
    go_ret
    exact ⟨ret_bool (decide_eq_true (by omega)), rfl⟩
  · rw [decide_eq_false h]
    go_enter Tryd.func74, Tryd.ntmps74
    go_wp2_with fail
    go_ret
    exact ⟨ret_bool (decide_eq_false (by omega)), rfl⟩
theorem tlong_run : ∀ (v : Value) (w : World), (callFunc 74 #[v]).run Tryd.prog w = .ok (.enter 74 #[v]) w := fun v w => by kernel_rfl
def idxS (l : List ByteArray) (e : Ending) : Prop := ∃ i : Int, e = .returned (.int .i64 i) ∧ (allS l = true → i = -1) ∧ (allS l = false → 0 ≤ i)
set_option maxRecDepth 100000 in
theorem SIndexFunc_any (A : Option Addr) (n c : Nat) (l : List ByteArray) (w : World) (hr : Rd w 1 A n c (l.map Value.string)) (hm : c ≤ maxLen) :
    Calls Tryd.prog 99 #[.slice A n c, .func (.func 74) #[] #[]] w fun e w' => idxS l e ∧ w = w' := by
  have hl : n ≤ c := hr.2.1
  have HX := Lib.hid hr.lenS
  have hrun := tlong_run
  unfold maxLen at hm
  go_enter Tryd.func99, Tryd.ntmps99
  go_wp2
  go_loop [8] (fun i => ∃ k : Nat, k ≤ n ∧ i = .int .i64 k ∧ Hid (allS (l.take k) = true)) (fun i => n - (intOf i).toNat)
  case atStart => exact ⟨0, Nat.zero_le _, rfl, rfl⟩
  case round =>
    obtain ⟨k, hk, rfl, HK⟩ := hrel
    by_cases hlt : k < n
    · obtain ⟨z, hz⟩ : ∃ z, l[k]? = some z := ⟨_, List.getElem?_eq_getElem (by rw [HX.out]; exact hlt)⟩
      obtain ⟨ad, hA, hb, hcell⟩ := hr.getS hz
      subst hA
      by_cases hv : z.size ≤ 200
      · have HN : Hid (allS (l.take (k + 1)) = true) := by show _ = _; rw [allS_snoc hz, HK.out, decide_eq_true hv]; rfl
        clear hz
        go_wp2_with fail
        refine (tlong_any z _).mono ?_
        rw [decide_eq_false (by omega)]
        rintro e w' ⟨rfl, rfl⟩
        go_wp2_with fail
        go_round
        case rel => exact ⟨k + 1, by omega, by go_num, HN⟩
        case measure => simp [intOf]; omega
      · have HN : Hid (idxS l (.returned (.int .i64 (k : Int)))) := ⟨_, rfl, (fun h => by rw [allS_no hz hv] at h; cases h), (fun _ => by omega)⟩
        clear hz
        go_wp2_with fail
        refine (tlong_any z _).mono ?_
        rw [decide_eq_true (by omega)]
        rintro e w' ⟨rfl, rfl⟩
        go_wp2_with fail
        go_ret
        exact ⟨HN.out, rfl⟩
    · obtain rfl : k = n := by omega
      have HN : Hid (idxS l (.returned (.int .i64 (-1)))) := by
        have h := HK.out
        rw [List.take_of_length_le (by rw [HX.out]; exact Nat.le_refl _)] at h
        exact ⟨_, rfl, (fun _ => rfl), (fun h' => by rw [h] at h'; cases h')⟩
      go_wp2_with fail
      go_ret
      exact ⟨HN.out, rfl⟩
theorem SContains_any (A : Option Addr) (n c : Nat) (l : List ByteArray) (w : World) (hr : Rd w 1 A n c (l.map Value.string)) (hm : c ≤ maxLen) :
    Calls Tryd.prog 73 #[.slice A n c, .func (.func 74) #[] #[]] w fun e w' => e = .returned (.bool (!allS l)) ∧ w = w' := by
  go_enter Tryd.func73, Tryd.ntmps73
  go_wp2_with fail
  refine (SIndexFunc_any A n c l _ hr hm).mono ?_
  rintro e w' ⟨hi, rfl⟩
  unfold idxS at hi
  obtain ⟨i, rfl, h1, h2⟩ := hi
  cases hs : allS l
  · have := h2 hs
    have HS := Lib.hid hs
    clear h1 h2 hs
    go_wp2_with fail
    go_ret
    exact ⟨ret_bool (by rw [HS.out]; rfl), rfl⟩
  · obtain rfl := h1 hs
    have HS := Lib.hid hs
    clear h1 h2 hs
    go_wp2_with fail
    go_ret
    exact ⟨ret_bool (by rw [HS.out]; rfl), rfl⟩

def sumsK (l : List ByteArray) : List Int := if dataK l = 0 then sumsD l else []
set_option maxRecDepth 100000 in
set_option maxHeartbeats 1000000 in
theorem tleafs_any (A : Option Addr) (n c : Nat) (l : List ByteArray) (w : World) (hr : Rd w 1 A n c (l.map Value.string)) (hm : c ≤ maxLen) :
    Calls Tryd.prog 42 #[.slice A n c] w fun e w' => (∃ v, e = .returned (.tuple #[v, errR (dataK l)]) ∧ OwnI w w' v (sumsK l)) ∧ Ext w w' := by
  have hx := hr.lenS
  have hlc := hr.2.1
  by_cases h2 : n ≤ 200
  · have hK := dataK_allS (l := l) (by omega)
    cases hs : allS l
    · rw [hs, if_neg (by decide)] at hK
      have HE : Hid (errR (dataK l) = errV 4) := by show _ = _; rw [hK]; rfl
      have HV : Hid (sumsK l = []) := by show _ = _; unfold sumsK; rw [if_neg (by rw [hK]; decide)]
      have HS := Lib.hid hs
      rw [HE.out, HV.out]
      clear hx hK hs
      go_enter Tryd.func42, Tryd.ntmps42
      go_wp2_with fail
      refine (SContains_any A n c l _ hr hm).mono ?_
      rw [HS.out]
      rintro e w' ⟨rfl, rfl⟩
      go_wp2_with fail
      go_ret2
      exact ⟨⟨_, rfl, own_nil _ _ _ _⟩, by (repeat (with_reducible first | exact Ext.refl _ | assumption | refine Ext.drew ?_ | refine Ext.drewN ?_ _ | refine Ext.alloc ?_ _ | refine Ext.trans ?_ (by with_reducible assumption)))⟩
    · rw [hs, if_pos rfl] at hK
      have HE : Hid (errR (dataK l) = .nilIface) := by show _ = _; rw [hK]; rfl
      have HV : Hid (sumsK l = sumsD l) := by show _ = _; unfold sumsK; rw [if_pos hK]
      have HD := Lib.hid (dataK_zero hK)
      have HS := Lib.hid hs
      have HX := Lib.hid hx
      rw [HE.out, HV.out]
      obtain ⟨i0, hi0, hz0, hz1, hz2⟩ := info_parts info_int
      clear hx hK hs
      go_enter Tryd.func42, Tryd.ntmps42
      go_wp2_with fail
      refine (SContains_any A n c l _ hr hm).mono ?_
      rw [HS.out]
      rintro e w' ⟨rfl, rfl⟩
      go_wp2_with fail
      go_loopw [4, 17] (fun v x wr => ∃ j : Nat, x = .int .i64 j ∧ j ≤ n ∧ Ext w wr ∧ Hid (OwnI w wr v (sumsD (l.take j)))) (fun _ x _ => n - (intOf x).toNat)
      case atStart => exact ⟨0, rfl, Nat.zero_le _, by (repeat (with_reducible first | exact Ext.refl _ | assumption | refine Ext.drew ?_ | refine Ext.drewN ?_ _ | refine Ext.alloc ?_ _ | refine Ext.trans ?_ (by with_reducible assumption))), own_nil _ _ _ _⟩
      case round =>
        obtain ⟨j, rfl, hj, hbw, hown⟩ := hrel
        by_cases hc : j < n
        · have hgj := List.getElem?_eq_getElem (l := l) (i := j) (by rw [HX.out]; exact hc)
          obtain ⟨ad, rfl, hb, hcell⟩ := (hr.ext hbw).getS hgj
          have HT := Lib.hid (sumsD_snoc hgj)
          have hsz := HD.out.2 _ (List.mem_of_getElem? hgj)
          have hlen := sumsD_len (l.take j)
          rw [List.length_take, HX.out, Nat.min_eq_left (by omega)] at hlen
          generalize l[j]'(by rw [HX.out]; exact hc) = e at *
          generalize sumsD (l.take j) = L at *
          have hlL : L.length ≤ 4096 := by omega
          have hbw0 := hbw.size
          clear hgj hlen
          go_wp2_with fail
          refine (Leaf_any e _ (by omega)).mono ?_
          rintro _ w1 ⟨rfl, hb1⟩
          have hs1 := hb1.size
          go_wp2_with (at_builtin; refine wpl_app (by rfl) _ _ _ (by rfl) w.heap.size 3 i0 _ 1 8 Tryd.underlying51 hi0 hz0 hz1 hz2 rfl (by omega) u4 _ _ (by rfl) ((own_ext hown.out hb1).alloc _) w1.heap.size 1 [.int .i64 (leafL e.data.toList)] rfl (by rfl) (news_new w1 _ _ _ rfl) (oneI _) (by omega) (by omega) (by simp; omega) ?_; intro g cap w3 own3 hext3)
          go_roundw
          case rel => exact ⟨j + 1, by go_num, by omega, hext3 _ (Nat.le_refl _) (by (repeat (with_reducible first | exact Ext.refl _ | assumption | refine Ext.drew ?_ | refine Ext.drewN ?_ _ | refine Ext.alloc ?_ _ | refine Ext.trans ?_ (by with_reducible assumption)))), OwnI.mk own3 (by rw [HT.out]; simp) (by rw [HT.out]; simp)⟩
          case measure => simp [intOf]; omega
        · obtain rfl : j = n := by omega
          have HT : Hid (l.take j = l) := by show _ = _; rw [List.take_of_length_le (by rw [HX.out]; exact Nat.le_refl _)]
          rw [HT.out] at hown
          go_wp2_with fail
          go_ret2
          exact ⟨⟨_, rfl, hown.out⟩, by (repeat (with_reducible first | exact Ext.refl _ | assumption | refine Ext.drew ?_ | refine Ext.drewN ?_ _ | refine Ext.alloc ?_ _ | refine Ext.trans ?_ (by with_reducible assumption)))⟩
  · have hK : dataK l = 4 := dataK_bad fun h => by have := h.1; omega
    have HE : Hid (errR (dataK l) = errV 4) := by show _ = _; rw [hK]; rfl
    have HV : Hid (sumsK l = []) := by show _ = _; unfold sumsK; rw [if_neg (by rw [hK]; decide)]
    rw [HE.out, HV.out]
    clear hx hK
    go_enter Tryd.func42, Tryd.ntmps42
    go_wp2_with fail
    go_ret2
    exact ⟨⟨_, rfl, own_nil _ _ _ _⟩, by (repeat (with_reducible first | exact Ext.refl _ | assumption | refine Ext.drew ?_ | refine Ext.drewN ?_ _ | refine Ext.alloc ?_ _ | refine Ext.trans ?_ (by with_reducible assumption)))⟩
end Go.Proofs.YtdpfebokbikgfaaDoor

namespace Go.Proofs.YtdpfebokbikgfaaDoor
open Go.RowKit Go.WideShapes
set_option linter.unusedVariables false
attribute [local go_sem ↓] Go.wp_at_zero Go.wp_at_succ

def okL (xs : List Int) : Prop := allV xs = true ∧ xs.length ≤ 4096
theorem ofL_pos (xs : List Int) (h : okL xs) : 0 ≤ ofL xs := (vld_true (vld_ofL h.1 h.2)).1
theorem okL_take (a : List ByteArray) (k : Nat) (hl : a.length ≤ 4096) : okL ((sumsD a).take k) := ⟨allV_take (allV_sumsD a) k, by rw [List.length_take, sumsD_len]; omega⟩
theorem okL_drop (a : List ByteArray) (k : Nat) (hl : a.length ≤ 4096) : okL ((sumsD a).drop k) := ⟨allV_drop (allV_sumsD a) k, by rw [List.length_drop, sumsD_len]; omega⟩
theorem TTop_any (k : Nat) (a : List ByteArray) (w : World) (hl : a.length ≤ 4096) :
    Calls Tryd.prog 75 #[.int .i64 (ofL ((sumsD a).take k)), .int .i64 (ofL ((sumsD a).drop k))] w fun e w' => e = .returned (.string (topS k a)) ∧ Ext w w' :=
  BytesOf_any _ _ w (vld_true (vld_ofL (allV_take (allV_sumsD a) k) (by rw [List.length_take, sumsD_len]; omega))).1 (vld_true (vld_ofL (allV_drop (allV_sumsD a) k) (by rw [List.length_drop, sumsD_len]; omega))).1

set_option maxRecDepth 100000 in
set_option maxHeartbeats 600000 in
theorem differ_any (N : Nat) : ∀ (A A' B B' : Option Addr) (n c c' d d' : Nat) (a b : List ByteArray) (w : World), n ≤ N → Rd w 1 A n c (a.map Value.string) → Rd w 1 A' n c' (b.map Value.string) → Rd w 1 B n d ((sumsD a).map (Value.int .i64)) → Rd w 1 B' n d' ((sumsD b).map (Value.int .i64)) → c ≤ maxLen → c' ≤ maxLen → d ≤ maxLen → d' ≤ maxLen → 1 ≤ n → n ≤ 4096 → (∀ s ∈ a, s.size ≤ 1000000) → (∀ s ∈ b, s.size ≤ 1000000) →
    Calls Tryd.prog 44 #[.slice A n c, .slice A' n c', .slice B n d, .slice B' n d'] w fun e w' => e = .returned (.agg #[.string (clashL a b).1, .string (clashL a b).2]) ∧ Ext w w' := by
  induction N with
  | zero => intro A A' B B' n c c' d d' a b w hN hr hr' hs hs' hm hm' hd hd' h1; omega
  | succ N ih =>
    intro A A' B B' n c c' d d' a b w hN hr hr' hs hs' hm hm' hd hd' h1 hn hsa hsb
    have hxa := hr.lenS
    have hxb := hr'.lenS
    have IH := Lib.hid ih
    clear ih
    by_cases h2 : 2 ≤ n
    · have hl := hr.2.1
      have hl' := hr'.2.1
      have hl1 := hs.2.1
      have hl2 := hs'.2.1
      have hk := half_lt h2 hn
      have hk0 := half_pos n
      have hk' := half_le h2 hn
      have HXA := Lib.hid hxa
      have HXB := Lib.hid hxb
      have HSA := Lib.hid hsa
      have HSB := Lib.hid hsb
      have HCT := Lib.hid (fun h => clashL_top (a := a) (b := b) (by omega) (by omega) h)
      have HCL := Lib.hid (fun h h' => clashL_left (a := a) (b := b) (by omega) (by omega) h h')
      have HCR := Lib.hid (fun h h' => clashL_right (a := a) (b := b) (by omega) (by omega) h h')
      rw [hxa] at HCT HCL HCR
      unfold maxLen at hm hm' hd hd'
      have e1 : ((n : Int) == 1) = false := by simp; omega
      have q0 : (0 : Int) ≤ (half n : Int) := by omega
      have q1 : (half n : Int) ≤ (n : Int) := by omega
      have q2 : (half n : Int) ≤ (c : Int) := by omega
      have q2' : (half n : Int) ≤ (c' : Int) := by omega
      have q3 : (n : Int) ≤ (c : Int) := by omega
      have q3' : (n : Int) ≤ (c' : Int) := by omega
      have p1 : (half n : Int) ≤ (d : Int) := by omega
      have p2 : (half n : Int) ≤ (d' : Int) := by omega
      have p3 : (n : Int) ≤ (d : Int) := by omega
      have p4 : (n : Int) ≤ (d' : Int) := by omega
      have z0 := zeroClash w
      have E0 : Ext w (w.alloc (.cells #[.string ⟨#[]⟩, .string ⟨#[]⟩] 44)) := by (repeat (with_reducible first | exact Ext.refl _ | assumption | refine Ext.drew ?_ | refine Ext.drewN ?_ _ | refine Ext.alloc ?_ _ | refine Ext.trans ?_ (by with_reducible assumption)))
      have LA := Lib.hid (show a.length ≤ 4096 by rw [hxa]; exact hn)
      have LB := Lib.hid (show b.length ≤ 4096 by rw [hxb]; exact hn)
      have L1 := hs.takeI (k := half n) (by omega)
      have D1 := hs.dropI' (k := half n) (by omega)
      have D1i := hs.dropI (k := half n) (by omega)
      have L2 := hs'.takeI (k := half n) (by omega)
      have D2 := hs'.dropI' (k := half n) (by omega)
      have D2i := hs'.dropI (k := half n) (by omega)
      have V1 := Lib.hid (okL_take a (half n) LA.out)
      have V2 := Lib.hid (okL_drop a (half n) LA.out)
      have V3 := Lib.hid (okL_take b (half n) LB.out)
      have V4 := Lib.hid (okL_drop b (half n) LB.out)
      clear hxa hxb hsa hsb
      go_enter Tryd.func44, Tryd.ntmps44
      go_wp2_with fail
      generalize w.alloc (.cells #[.string ⟨#[]⟩, .string ⟨#[]⟩] 44) = w0 at *
      refine (Half_any _ _ (by omega) (by omega)).mono ?_
      rintro e w' ⟨rfl, rfl⟩
      rw [Int.toNat_natCast]
      go_wp2_with fail
      (refine wp_region_ext (w0 := w0) (by kernel_rfl) (by kernel_rfl) (by (repeat (with_reducible first | exact Ext.refl _ | assumption | refine Ext.drew ?_ | refine Ext.drewN ?_ _ | refine Ext.alloc ?_ _ | refine Ext.trans ?_ (by with_reducible assumption)))) ?_; (repeat (go_big_quiet_step ((first
        | (go_at_call 37; first
            | with_reducible exact quietE (Of_any n _ _ _ _ _ (by omega) (L1.ext (E0.trans (WE.h _))) (by simp only [maxLen]; omega) (by omega) (allV_take (allV_sumsD a) _))
            | with_reducible exact quietE (Of_any n _ _ _ _ _ (by omega) (D1.ext (E0.trans (WE.h _))) (by simp only [maxLen]; omega) (by omega) (allV_drop (allV_sumsD a) _))
            | with_reducible exact quietE (Of_any n _ _ _ _ _ (by omega) (D1i.ext (E0.trans (WE.h _))) (by simp only [maxLen]; omega) (by omega) (allV_drop (allV_sumsD a) _))
            | with_reducible exact quietE (Of_any n _ _ _ _ _ (by omega) (L2.ext (E0.trans (WE.h _))) (by simp only [maxLen]; omega) (by omega) (allV_take (allV_sumsD b) _))
            | with_reducible exact quietE (Of_any n _ _ _ _ _ (by omega) (D2.ext (E0.trans (WE.h _))) (by simp only [maxLen]; omega) (by omega) (allV_drop (allV_sumsD b) _))
            | with_reducible exact quietE (Of_any n _ _ _ _ _ (by omega) (D2i.ext (E0.trans (WE.h _))) (by simp only [maxLen]; omega) (by omega) (allV_drop (allV_sumsD b) _)))
        | (go_at_call 75; exact quietE (BytesOf_any _ _ _ (ofL_pos _ (by first | exact V1.out | exact V2.out | exact V3.out | exact V4.out)) (ofL_pos _ (by first | exact V1.out | exact V2.out | exact V3.out | exact V4.out)))))))); refine wpQuiet_nil ?_)
      intro w4 hb4
      rw [show (⟨(nodeB (ofL ((sumsD a).take (half n))) (ofL ((sumsD a).drop (half n)))).toArray⟩ : ByteArray) = topS (half n) a from rfl, show (⟨(nodeB (ofL ((sumsD b).take (half n))) (ofL ((sumsD b).drop (half n)))).toArray⟩ : ByteArray) = topS (half n) b from rfl]
      have E4 := E0.trans hb4
      have z4 := z0.ext hb4
      clear z0
      by_cases ht : topB (half n) a = topB (half n) b
      · have hts : topS (half n) a = topS (half n) b := congrArg (fun l : List UInt8 => (⟨l.toArray⟩ : ByteArray)) ht
        rw [hts]
        have HT := Lib.hid ht
        have RA := hr.takeS (k := half n) (by omega)
        have RB := hr'.takeS (k := half n) (by omega)
        have TA := hr.dropS' (k := half n) (by omega)
        have TB := hr'.dropS' (k := half n) (by omega)
        have TAi := hr.dropS (k := half n) (by omega)
        have TBi := hr'.dropS (k := half n) (by omega)
        rw [sumsD_take] at L1 L2
        rw [sumsD_drop] at D1 D1i D2 D2i
        clear hts ht
        generalize topS (half n) b = sb at *
        go_wp2_with fail
        (refine wp_region_ext (w0 := w4) (by kernel_rfl) (by kernel_rfl) (by (repeat (with_reducible first | exact Ext.refl _ | assumption | refine Ext.drew ?_ | refine Ext.drewN ?_ _ | refine Ext.alloc ?_ _ | refine Ext.trans ?_ (by with_reducible assumption)))) ?_; (repeat (go_big_quiet_step (((go_at_call 43; exact quietE (SEq_any _ _ _ _ _ _ _ _ _ (RA.ext (E4.trans (WE.h _))) (RB.ext (E4.trans (WE.h _))) (by simp only [maxLen]; omega) (by simp only [maxLen]; omega))))))); refine wpQuiet_nil ?_)
        intro w5 hb5
        have E5 := E4.trans hb5
        have z5 := z4.ext hb5
        have sa : ∀ s ∈ a.take (half n), s.size ≤ 1000000 := fun s hs => HSA.out s (List.mem_of_mem_take hs)
        have sb' : ∀ s ∈ b.take (half n), s.size ≤ 1000000 := fun s hs => HSB.out s (List.mem_of_mem_take hs)
        have ta : ∀ s ∈ a.drop (half n), s.size ≤ 1000000 := fun s hs => HSA.out s (List.mem_of_mem_drop hs)
        have tb : ∀ s ∈ b.drop (half n), s.size ≤ 1000000 := fun s hs => HSB.out s (List.mem_of_mem_drop hs)
        have SA := Lib.hid sa
        have SB := Lib.hid sb'
        have TSA := Lib.hid ta
        have TSB := Lib.hid tb
        clear sa sb' ta tb
        by_cases he : a.take (half n) = b.take (half n)
        · rw [sameB_yes he]
          obtain ⟨cl, hcl⟩ : ∃ cl, cl = clashL (a.drop (half n)) (b.drop (half n)) := ⟨_, rfl⟩
          obtain ⟨x, y⟩ := cl
          have CL : Hid (clashL (a.drop (half n)) (b.drop (half n)) = (x, y)) := hcl.symm
          have CR : Hid (clashL a b = (x, y)) := by show _ = _; rw [HCR.out HT.out he]; exact hcl.symm
          clear he hcl
          go_wp2_with fail
          go_region_held3 (fun _ => True) (exact trivial) (first
            | (go_at_call 44; (with_reducible refine (IH.out _ _ _ _ (n - half n) (c - half n) (c' - half n) (d - half n) (d' - half n) (a.drop (half n)) (b.drop (half n)) _ (by omega) (by first | exact TA.ext (E5.trans (by (repeat (with_reducible first | exact Ext.refl _ | assumption | refine Ext.drew ?_ | refine Ext.drewN ?_ _ | refine Ext.alloc ?_ _ | refine Ext.trans ?_ (by with_reducible assumption))))) | exact TAi.ext (E5.trans (by (repeat (with_reducible first | exact Ext.refl _ | assumption | refine Ext.drew ?_ | refine Ext.drewN ?_ _ | refine Ext.alloc ?_ _ | refine Ext.trans ?_ (by with_reducible assumption)))))) (by first | exact TB.ext (E5.trans (by (repeat (with_reducible first | exact Ext.refl _ | assumption | refine Ext.drew ?_ | refine Ext.drewN ?_ _ | refine Ext.alloc ?_ _ | refine Ext.trans ?_ (by with_reducible assumption))))) | exact TBi.ext (E5.trans (by (repeat (with_reducible first | exact Ext.refl _ | assumption | refine Ext.drew ?_ | refine Ext.drewN ?_ _ | refine Ext.alloc ?_ _ | refine Ext.trans ?_ (by with_reducible assumption)))))) (by first | exact D1.ext (E5.trans (by (repeat (with_reducible first | exact Ext.refl _ | assumption | refine Ext.drew ?_ | refine Ext.drewN ?_ _ | refine Ext.alloc ?_ _ | refine Ext.trans ?_ (by with_reducible assumption))))) | exact D1i.ext (E5.trans (by (repeat (with_reducible first | exact Ext.refl _ | assumption | refine Ext.drew ?_ | refine Ext.drewN ?_ _ | refine Ext.alloc ?_ _ | refine Ext.trans ?_ (by with_reducible assumption)))))) (by first | exact D2.ext (E5.trans (by (repeat (with_reducible first | exact Ext.refl _ | assumption | refine Ext.drew ?_ | refine Ext.drewN ?_ _ | refine Ext.alloc ?_ _ | refine Ext.trans ?_ (by with_reducible assumption))))) | exact D2i.ext (E5.trans (by (repeat (with_reducible first | exact Ext.refl _ | assumption | refine Ext.drew ?_ | refine Ext.drewN ?_ _ | refine Ext.alloc ?_ _ | refine Ext.trans ?_ (by with_reducible assumption)))))) (by simp only [maxLen]; omega) (by simp only [maxLen]; omega) (by simp only [maxLen]; omega) (by simp only [maxLen]; omega) (by omega) (by omega) TSA.out TSB.out).mono ?_); rintro e w6 ⟨rfl, hb6⟩; rw [CL.out]; have B6 : Bk w6 w.heap.size 44 #[.string ⟨#[]⟩, .string ⟨#[]⟩] := (by exact (Bk.drew z5).ext hb6); have E6 : Ext w w6 := (by exact E5.trans (Ext.trans (Ext.drew (Ext.refl _)) hb6)); have p0 := B6.cell 0; have p1 := B6.cell 1; have p2 := B6.frozen 0; have p3 := B6.frozen 1)
            | fail)
          have B7 := (B6.set_ 0 (.string x)).set_ 1 (.string y)
          have g0 := B7.cell 0
          have g1 := B7.cell 1
          simp at g0 g1
          have E7 := (E6.setCell (p := ⟨w.heap.size, 0, none⟩) (Nat.le_refl _) (.string x)).setCell (p := ⟨w.heap.size, 1, none⟩) (Nat.le_refl _) (.string y)
          go_wp2_with fail
          refine bodyPost_ret (by simp [results, Tryd.results44, go_sem, g0, g1]; try rfl) rfl ?_
          exact ⟨by rw [CR.out], E7⟩
        · rw [sameB_no he]
          obtain ⟨cl, hcl⟩ : ∃ cl, cl = clashL (a.take (half n)) (b.take (half n)) := ⟨_, rfl⟩
          obtain ⟨x, y⟩ := cl
          have CL : Hid (clashL (a.take (half n)) (b.take (half n)) = (x, y)) := hcl.symm
          have CR : Hid (clashL a b = (x, y)) := by show _ = _; rw [HCL.out HT.out he]; exact hcl.symm
          clear he hcl
          go_wp2_with fail
          go_region_held3 (fun _ => True) (exact trivial) (first
            | (go_at_call 44; (with_reducible refine (IH.out _ _ _ _ (half n) c c' d d' (a.take (half n)) (b.take (half n)) _ (by omega) (by exact RA.ext (E5.trans (by (repeat (with_reducible first | exact Ext.refl _ | assumption | refine Ext.drew ?_ | refine Ext.drewN ?_ _ | refine Ext.alloc ?_ _ | refine Ext.trans ?_ (by with_reducible assumption)))))) (by exact RB.ext (E5.trans (by (repeat (with_reducible first | exact Ext.refl _ | assumption | refine Ext.drew ?_ | refine Ext.drewN ?_ _ | refine Ext.alloc ?_ _ | refine Ext.trans ?_ (by with_reducible assumption)))))) (by exact L1.ext (E5.trans (by (repeat (with_reducible first | exact Ext.refl _ | assumption | refine Ext.drew ?_ | refine Ext.drewN ?_ _ | refine Ext.alloc ?_ _ | refine Ext.trans ?_ (by with_reducible assumption)))))) (by exact L2.ext (E5.trans (by (repeat (with_reducible first | exact Ext.refl _ | assumption | refine Ext.drew ?_ | refine Ext.drewN ?_ _ | refine Ext.alloc ?_ _ | refine Ext.trans ?_ (by with_reducible assumption)))))) (by simp only [maxLen]; omega) (by simp only [maxLen]; omega) (by simp only [maxLen]; omega) (by simp only [maxLen]; omega) (by omega) (by omega) SA.out SB.out).mono ?_); rintro e w6 ⟨rfl, hb6⟩; rw [CL.out]; have B6 : Bk w6 w.heap.size 44 #[.string ⟨#[]⟩, .string ⟨#[]⟩] := (by exact (Bk.drew z5).ext hb6); have E6 : Ext w w6 := (by exact E5.trans (Ext.trans (Ext.drew (Ext.refl _)) hb6)); have p0 := B6.cell 0; have p1 := B6.cell 1; have p2 := B6.frozen 0; have p3 := B6.frozen 1)
            | fail)
          have B7 := (B6.set_ 0 (.string x)).set_ 1 (.string y)
          have g0 := B7.cell 0
          have g1 := B7.cell 1
          simp at g0 g1
          have E7 := (E6.setCell (p := ⟨w.heap.size, 0, none⟩) (Nat.le_refl _) (.string x)).setCell (p := ⟨w.heap.size, 1, none⟩) (Nat.le_refl _) (.string y)
          go_wp2_with fail
          refine bodyPost_ret (by simp [results, Tryd.results44, go_sem, g0, g1]; try rfl) rfl ?_
          exact ⟨by rw [CR.out], E7⟩
      · have HC := Lib.hid (HCT.out ht)
        have hse : (!(topS (half n) a).toList == (topS (half n) b).toList) = true := by
          rw [(Lib.bytes_beq_false_iff _ _).2 (fun e => topS_ne ht (congrArg ByteArray.toList e))]; rfl
        clear ht
        generalize topS (half n) a = x at *
        generalize topS (half n) b = y at *
        have p0 := z4.cell 0
        have p1' := z4.cell 1
        have p2' := z4.frozen 0
        have p3' := z4.frozen 1
        have B6 := z4
        have E6 := E4
        go_wp2_with fail
        have B7 := (B6.set_ 0 (.string x)).set_ 1 (.string y)
        have g0 := B7.cell 0
        have g1 := B7.cell 1
        simp at g0 g1
        have E7 := (E6.setCell (p := ⟨w.heap.size, 0, none⟩) (Nat.le_refl _) (.string x)).setCell (p := ⟨w.heap.size, 1, none⟩) (Nat.le_refl _) (.string y)
        refine bodyPost_ret (by simp [results, Tryd.results44, go_sem, g0, g1]; try rfl) rfl ?_
        exact ⟨by rw [HC.out], E7⟩
    · obtain rfl : n = 1 := by omega
      obtain ⟨x, rfl⟩ := List.length_eq_one_iff.1 hxa
      obtain ⟨y, rfl⟩ := List.length_eq_one_iff.1 hxb
      obtain ⟨ad, rfl, hb, c0⟩ := hr.getS (j := 0) (z := x) rfl
      obtain ⟨ad', rfl, hb', c0'⟩ := hr'.getS (j := 0) (z := y) rfl
      rw [add_zero'] at c0 c0'
      have HC := Lib.hid (clashL_one x y)
      have hx1 := hsa x (by simp)
      have hy1 := hsb y (by simp)
      have z0 := zeroClash w
      have E0 : Ext w (w.alloc (.cells #[.string ⟨#[]⟩, .string ⟨#[]⟩] 44)) := by (repeat (with_reducible first | exact Ext.refl _ | assumption | refine Ext.drew ?_ | refine Ext.drewN ?_ _ | refine Ext.alloc ?_ _ | refine Ext.trans ?_ (by with_reducible assumption)))
      have d0 := (E0.cell (p := ad) hb).trans c0
      have d0' := (E0.cell (p := ad') hb').trans c0'
      clear hr hr' hs hs' hsa hsb hxa hxb h2
      go_enter Tryd.func44, Tryd.ntmps44
      go_wp2_with fail
      generalize w.alloc (.cells #[.string ⟨#[]⟩, .string ⟨#[]⟩] 44) = w0 at *
      have p0 := z0.cell 0
      have p1 := z0.cell 1
      have p2 := z0.frozen 0
      have p3 := z0.frozen 1
      go_region
      all_goals
        go_wp2_with fail
        have B7 := (z0.set_ 0 (.string (⟨#[0]⟩ ++ x))).set_ 1 (.string (⟨#[0]⟩ ++ y))
        have g0 := (z0.set_ 0 (.string (⟨#[0]⟩ ++ x))).cell 0
        have g1 := B7.cell 1
        simp at g0 g1
        have E7 := ((Ext.drew E0).setCell (p := ⟨w.heap.size, 0, none⟩) (Nat.le_refl _) (.string (⟨#[0]⟩ ++ x))).setCell (p := ⟨w.heap.size, 1, none⟩) (Nat.le_refl _) (.string (⟨#[0]⟩ ++ y))
        refine bodyPost_ret (by simp [results, Tryd.results44, go_sem, g0, g1]; try rfl) rfl ?_
        exact ⟨by rw [HC.out]; rfl, E7⟩

/-! ### tree.Collide -/
def collK (a b : List ByteArray) : Int :=
  if dataK a ≠ 0 then 4 else if dataK b ≠ 0 then 4 else if a.length ≠ b.length then 3 else if a = b then 7 else if ofL (sumsD a) ≠ ofL (sumsD b) then 5 else 0
def collV (a b : List ByteArray) : ByteArray × ByteArray := if collK a b = 0 then clashL a b else (⟨#[]⟩, ⟨#[]⟩)
theorem coll_ways (a b : List ByteArray) : (¬ dataOk a ∧ collK a b = 4) ∨ (dataOk a ∧ ¬ dataOk b ∧ collK a b = 4) ∨ (dataOk a ∧ dataOk b ∧ a.length ≠ b.length ∧ collK a b = 3) ∨ (dataOk a ∧ dataOk b ∧ a.length = b.length ∧ a = b ∧ collK a b = 7) ∨ (dataOk a ∧ dataOk b ∧ a.length = b.length ∧ a ≠ b ∧ ofL (sumsD a) ≠ ofL (sumsD b) ∧ collK a b = 5) ∨ (dataOk a ∧ dataOk b ∧ a.length = b.length ∧ a ≠ b ∧ ofL (sumsD a) = ofL (sumsD b) ∧ collK a b = 0) := by
  unfold collK
  by_cases ha : dataOk a
  · rw [dataK_ok ha, if_neg (by decide)]
    by_cases hb : dataOk b
    · rw [dataK_ok hb, if_neg (by decide)]
      by_cases hl : a.length = b.length
      · rw [if_neg (not_not_intro hl)]
        by_cases he : a = b
        · rw [if_pos he]; exact .inr (.inr (.inr (.inl ⟨ha, hb, hl, he, rfl⟩)))
        · rw [if_neg he]
          by_cases ho : ofL (sumsD a) = ofL (sumsD b)
          · rw [if_neg (not_not_intro ho)]; exact .inr (.inr (.inr (.inr (.inr ⟨ha, hb, hl, he, ho, rfl⟩))))
          · rw [if_pos ho]; exact .inr (.inr (.inr (.inr (.inl ⟨ha, hb, hl, he, ho, rfl⟩))))
      · rw [if_pos hl]; exact .inr (.inr (.inl ⟨ha, hb, hl, rfl⟩))
    · rw [dataK_bad hb, if_pos (by decide)]; exact .inr (.inl ⟨ha, hb, rfl⟩)
  · rw [dataK_bad ha, if_pos (by decide)]; exact .inl ⟨ha, rfl⟩

set_option maxRecDepth 100000 in
set_option maxHeartbeats 600000 in
theorem Collide_any (A A' : Option Addr) (n n' c c' : Nat) (a b : List ByteArray) (w : World) (hr : Rd w 1 A n c (a.map Value.string)) (hr' : Rd w 1 A' n' c' (b.map Value.string)) (hm : c ≤ maxLen) (hm' : c' ≤ maxLen) :
    Calls Tryd.prog 16 #[.slice A n c, .slice A' n' c'] w fun e w' => e = .returned (.tuple #[.agg #[.string (collV a b).1, .string (collV a b).2], errR (collK a b)]) ∧ Ext w w' := by
  have hxa := hr.lenS
  have hxb := hr'.lenS
  have z0 := zeroClash w
  have E0 : Ext w (w.alloc (.cells #[.string ⟨#[]⟩, .string ⟨#[]⟩] 44)) := by (repeat (with_reducible first | exact Ext.refl _ | assumption | refine Ext.drew ?_ | refine Ext.drewN ?_ _ | refine Ext.alloc ?_ _ | refine Ext.trans ?_ (by with_reducible assumption)))
  have HV : Hid (collK a b ≠ 0 → collV a b = (⟨#[]⟩, ⟨#[]⟩)) := fun h => if_neg h
  have HV0 : Hid (collK a b = 0 → collV a b = clashL a b) := fun h => if_pos h
  rcases coll_ways a b with ⟨h1, hk⟩ | ⟨h1, h2, hk⟩ | ⟨h1, h2, h3, hk⟩ | ⟨h1, h2, h3, h4, hk⟩ | ⟨h1, h2, h3, h4, h5, hk⟩ | ⟨h1, h2, h3, h4, h5, hk⟩
  · have DA : Hid (errR (dataK a) = errV 4) := by show _ = _; rw [dataK_bad h1]; rfl
    have HE : Hid (errR (collK a b) = errV 4) := by show _ = _; rw [hk]; rfl
    rw [HE.out, HV.out (by rw [hk]; decide)]
    clear h1 hk hxa hxb
    go_enter Tryd.func16, Tryd.ntmps16
    go_wp2_with fail
    generalize w.alloc (.cells #[.string ⟨#[]⟩, .string ⟨#[]⟩] 44) = w0 at *
    refine (tleafs_any A n c a _ (hr.ext E0) hm).mono ?_
    rw [DA.out]
    rintro _ w1 ⟨⟨v1, rfl, own1⟩, hb1⟩
    obtain ⟨A1, c1, rfl, hc1, R1⟩ := own1.rd
    have z1 := z0.ext hb1
    have E1 := E0.trans hb1
    clear own1
    simp only [errV]
    have B6 := z1
    have E6 := E1
    have p0 := B6.cell 0
    have p1 := B6.cell 1
    have p2 := B6.frozen 0
    have p3 := B6.frozen 1
    have B7 := (B6.set_ 0 (.string (⟨#[]⟩ : ByteArray))).set_ 1 (.string (⟨#[]⟩ : ByteArray))
    have g0 := B7.cell 0
    have g1 := B7.cell 1
    simp at g0 g1
    have E7 := (E6.setCell (p := ⟨w.heap.size, 0, none⟩) (Nat.le_refl _) (.string (⟨#[]⟩ : ByteArray))).setCell (p := ⟨w.heap.size, 1, none⟩) (Nat.le_refl _) (.string (⟨#[]⟩ : ByteArray))
    go_wp2_with fail
    refine bodyPost_ret (by simp [results, Tryd.results16, go_sem, g0, g1]; try rfl) rfl ?_
    exact ⟨rfl, E7⟩
  · have DA : Hid (errR (dataK a) = .nilIface) := by show _ = _; rw [dataK_ok h1]; rfl
    have DB : Hid (errR (dataK b) = errV 4) := by show _ = _; rw [dataK_bad h2]; rfl
    have HE : Hid (errR (collK a b) = errV 4) := by show _ = _; rw [hk]; rfl
    rw [HE.out, HV.out (by rw [hk]; decide)]
    clear h1 h2 hk hxa hxb
    go_enter Tryd.func16, Tryd.ntmps16
    go_wp2_with fail
    generalize w.alloc (.cells #[.string ⟨#[]⟩, .string ⟨#[]⟩] 44) = w0 at *
    refine (tleafs_any A n c a _ (hr.ext E0) hm).mono ?_
    rw [DA.out]
    rintro _ w1 ⟨⟨v1, rfl, own1⟩, hb1⟩
    obtain ⟨A1, c1, rfl, hc1, R1⟩ := own1.rd
    have z1 := z0.ext hb1
    have E1 := E0.trans hb1
    clear own1
    go_wp2_with fail
    refine (tleafs_any A' n' c' b _ (hr'.ext E1) hm').mono ?_
    rw [DB.out]
    rintro _ w2 ⟨⟨v2, rfl, own2⟩, hb2⟩
    obtain ⟨A2, c2, rfl, hc2, R2⟩ := own2.rd
    have z2 := z1.ext hb2
    have E2 := E1.trans hb2
    have R1' := R1.ext hb2
    clear own2
    simp only [errV]
    have B6 := z2
    have E6 := E2
    have p0 := B6.cell 0
    have p1 := B6.cell 1
    have p2 := B6.frozen 0
    have p3 := B6.frozen 1
    have B7 := (B6.set_ 0 (.string (⟨#[]⟩ : ByteArray))).set_ 1 (.string (⟨#[]⟩ : ByteArray))
    have g0 := B7.cell 0
    have g1 := B7.cell 1
    simp at g0 g1
    have E7 := (E6.setCell (p := ⟨w.heap.size, 0, none⟩) (Nat.le_refl _) (.string (⟨#[]⟩ : ByteArray))).setCell (p := ⟨w.heap.size, 1, none⟩) (Nat.le_refl _) (.string (⟨#[]⟩ : ByteArray))
    go_wp2_with fail
    refine bodyPost_ret (by simp [results, Tryd.results16, go_sem, g0, g1]; try rfl) rfl ?_
    exact ⟨rfl, E7⟩
  · have DA : Hid (errR (dataK a) = .nilIface) := by show _ = _; rw [dataK_ok h1]; rfl
    have DB : Hid (errR (dataK b) = .nilIface) := by show _ = _; rw [dataK_ok h2]; rfl
    have HE : Hid (errR (collK a b) = errV 3) := by show _ = _; rw [hk]; rfl
    have e3 : ((n : Int) != (n' : Int)) = true := by simp; omega
    rw [HE.out, HV.out (by rw [hk]; decide)]
    clear h1 h2 h3 hk hxa hxb
    go_enter Tryd.func16, Tryd.ntmps16
    go_wp2_with fail
    generalize w.alloc (.cells #[.string ⟨#[]⟩, .string ⟨#[]⟩] 44) = w0 at *
    refine (tleafs_any A n c a _ (hr.ext E0) hm).mono ?_
    rw [DA.out]
    rintro _ w1 ⟨⟨v1, rfl, own1⟩, hb1⟩
    obtain ⟨A1, c1, rfl, hc1, R1⟩ := own1.rd
    have z1 := z0.ext hb1
    have E1 := E0.trans hb1
    clear own1
    go_wp2_with fail
    refine (tleafs_any A' n' c' b _ (hr'.ext E1) hm').mono ?_
    rw [DB.out]
    rintro _ w2 ⟨⟨v2, rfl, own2⟩, hb2⟩
    obtain ⟨A2, c2, rfl, hc2, R2⟩ := own2.rd
    have z2 := z1.ext hb2
    have E2 := E1.trans hb2
    have R1' := R1.ext hb2
    clear own2
    have B6 := z2
    have E6 := E2
    have p0 := B6.cell 0
    have p1 := B6.cell 1
    have p2 := B6.frozen 0
    have p3 := B6.frozen 1
    have B7 := (B6.set_ 0 (.string (⟨#[]⟩ : ByteArray))).set_ 1 (.string (⟨#[]⟩ : ByteArray))
    have g0 := B7.cell 0
    have g1 := B7.cell 1
    simp at g0 g1
    have E7 := (E6.setCell (p := ⟨w.heap.size, 0, none⟩) (Nat.le_refl _) (.string (⟨#[]⟩ : ByteArray))).setCell (p := ⟨w.heap.size, 1, none⟩) (Nat.le_refl _) (.string (⟨#[]⟩ : ByteArray))
    go_wp2_with fail
    refine bodyPost_ret (by simp [results, Tryd.results16, go_sem, g0, g1]; try rfl) rfl ?_
    exact ⟨rfl, E7⟩
  · have HE : Hid (errR (collK a b) = errV 7) := by show _ = _; rw [hk]; rfl
    rw [HE.out, HV.out (by rw [hk]; decide)]
    have DA : Hid (errR (dataK a) = .nilIface) := by show _ = _; rw [dataK_ok h1]; rfl
    have DB : Hid (errR (dataK b) = .nilIface) := by show _ = _; rw [dataK_ok h2]; rfl
    have SKA : Hid (sumsK a = sumsD a) := if_pos (dataK_ok h1)
    have SKB : Hid (sumsK b = sumsD b) := if_pos (dataK_ok h2)
    obtain rfl : n = n' := by omega
    have HXA := Lib.hid hxa
    have HXB := Lib.hid hxb
    have OKA := Lib.hid h1
    have OKB := Lib.hid h2
    have HQ := Lib.hid (sameB_yes h4)
    clear h1 h2 h3 h4 hk hxa hxb
    go_enter Tryd.func16, Tryd.ntmps16
    go_wp2_with fail
    generalize w.alloc (.cells #[.string ⟨#[]⟩, .string ⟨#[]⟩] 44) = w0 at *
    refine (tleafs_any A n c a _ (hr.ext E0) hm).mono ?_
    rw [DA.out]
    rintro _ w1 ⟨⟨v1, rfl, own1⟩, hb1⟩
    obtain ⟨A1, c1, rfl, hc1, R1⟩ := own1.rd
    have z1 := z0.ext hb1
    have E1 := E0.trans hb1
    clear own1
    go_wp2_with fail
    refine (tleafs_any A' n c' b _ (hr'.ext E1) hm').mono ?_
    rw [DB.out]
    rintro _ w2 ⟨⟨v2, rfl, own2⟩, hb2⟩
    obtain ⟨A2, c2, rfl, hc2, R2⟩ := own2.rd
    have z2 := z1.ext hb2
    have E2 := E1.trans hb2
    have R1' := R1.ext hb2
    clear own2
    rw [SKA.out, sumsD_len a, HXA.out] at R1'
    rw [SKB.out, sumsD_len b, HXB.out] at R2
    rw [SKA.out, SKB.out, sumsD_len a, sumsD_len b, HXA.out, HXB.out]
    go_wp2_with fail
    refine (SEq_any A A' n n c c' a b _ (hr.ext E2) (hr'.ext E2) hm hm').mono ?_
    rw [HQ.out]
    rintro _ w3 ⟨rfl, hb3⟩
    have z3 := z2.ext hb3
    have E3 := E2.trans hb3
    have R1'' := R1'.ext hb3
    have R2' := R2.ext hb3
    clear R1 R1' R2
    have B6 := z3
    have E6 := E3
    have p0 := B6.cell 0
    have p1 := B6.cell 1
    have p2 := B6.frozen 0
    have p3 := B6.frozen 1
    have B7 := (B6.set_ 0 (.string (⟨#[]⟩ : ByteArray))).set_ 1 (.string (⟨#[]⟩ : ByteArray))
    have g0 := B7.cell 0
    have g1 := B7.cell 1
    simp at g0 g1
    have E7 := (E6.setCell (p := ⟨w.heap.size, 0, none⟩) (Nat.le_refl _) (.string (⟨#[]⟩ : ByteArray))).setCell (p := ⟨w.heap.size, 1, none⟩) (Nat.le_refl _) (.string (⟨#[]⟩ : ByteArray))
    go_wp2_with fail
    refine bodyPost_ret (by simp [results, Tryd.results16, go_sem, g0, g1]; try rfl) rfl ?_
    exact ⟨rfl, E7⟩
  · have HE : Hid (errR (collK a b) = errV 5) := by show _ = _; rw [hk]; rfl
    rw [HE.out, HV.out (by rw [hk]; decide)]
    have DA : Hid (errR (dataK a) = .nilIface) := by show _ = _; rw [dataK_ok h1]; rfl
    have DB : Hid (errR (dataK b) = .nilIface) := by show _ = _; rw [dataK_ok h2]; rfl
    have SKA : Hid (sumsK a = sumsD a) := if_pos (dataK_ok h1)
    have SKB : Hid (sumsK b = sumsD b) := if_pos (dataK_ok h2)
    obtain rfl : n = n' := by omega
    have HXA := Lib.hid hxa
    have HXB := Lib.hid hxb
    have OKA := Lib.hid h1
    have OKB := Lib.hid h2
    have HQ := Lib.hid (sameB_no h4)
    have h5' : (ofL (sumsD a) != ofL (sumsD b)) = true := by simp [h5]
    clear h1 h2 h3 h4 h5 hk hxa hxb
    go_enter Tryd.func16, Tryd.ntmps16
    go_wp2_with fail
    generalize w.alloc (.cells #[.string ⟨#[]⟩, .string ⟨#[]⟩] 44) = w0 at *
    refine (tleafs_any A n c a _ (hr.ext E0) hm).mono ?_
    rw [DA.out]
    rintro _ w1 ⟨⟨v1, rfl, own1⟩, hb1⟩
    obtain ⟨A1, c1, rfl, hc1, R1⟩ := own1.rd
    have z1 := z0.ext hb1
    have E1 := E0.trans hb1
    clear own1
    go_wp2_with fail
    refine (tleafs_any A' n c' b _ (hr'.ext E1) hm').mono ?_
    rw [DB.out]
    rintro _ w2 ⟨⟨v2, rfl, own2⟩, hb2⟩
    obtain ⟨A2, c2, rfl, hc2, R2⟩ := own2.rd
    have z2 := z1.ext hb2
    have E2 := E1.trans hb2
    have R1' := R1.ext hb2
    clear own2
    rw [SKA.out, sumsD_len a, HXA.out] at R1'
    rw [SKB.out, sumsD_len b, HXB.out] at R2
    rw [SKA.out, SKB.out, sumsD_len a, sumsD_len b, HXA.out, HXB.out]
    go_wp2_with fail
    refine (SEq_any A A' n n c c' a b _ (hr.ext E2) (hr'.ext E2) hm hm').mono ?_
    rw [HQ.out]
    rintro _ w3 ⟨rfl, hb3⟩
    have z3 := z2.ext hb3
    have E3 := E2.trans hb3
    have R1'' := R1'.ext hb3
    have R2' := R2.ext hb3
    clear R1 R1' R2
    have hn2 : n ≤ 200 := by have := OKA.out.1; rw [HXA.out] at this; exact this
    go_wp2_with fail
    refine (Of_any n A1 n c1 (sumsD a) _ (Nat.le_refl _) R1'' hc1 (by omega) (allV_sumsD a)).mono ?_
    rintro _ w4 ⟨rfl, hb4⟩
    have z4 := z3.ext hb4
    have E4 := E3.trans hb4
    go_wp2_with fail
    refine (Of_any n A2 n c2 (sumsD b) _ (Nat.le_refl _) (R2'.ext hb4) hc2 (by omega) (allV_sumsD b)).mono ?_
    rintro _ w5 ⟨rfl, hb5⟩
    have z5 := z4.ext hb5
    have E5 := E4.trans hb5
    have B6 := z5
    have E6 := E5
    have p0 := B6.cell 0
    have p1 := B6.cell 1
    have p2 := B6.frozen 0
    have p3 := B6.frozen 1
    have B7 := (B6.set_ 0 (.string (⟨#[]⟩ : ByteArray))).set_ 1 (.string (⟨#[]⟩ : ByteArray))
    have g0 := B7.cell 0
    have g1 := B7.cell 1
    simp at g0 g1
    have E7 := (E6.setCell (p := ⟨w.heap.size, 0, none⟩) (Nat.le_refl _) (.string (⟨#[]⟩ : ByteArray))).setCell (p := ⟨w.heap.size, 1, none⟩) (Nat.le_refl _) (.string (⟨#[]⟩ : ByteArray))
    go_wp2_with fail
    refine bodyPost_ret (by simp [results, Tryd.results16, go_sem, g0, g1]; try rfl) rfl ?_
    exact ⟨rfl, E7⟩
  · have HE : Hid (errR (collK a b) = .nilIface) := by show _ = _; rw [hk]; rfl
    rw [HE.out, HV0.out hk]
    have DA : Hid (errR (dataK a) = .nilIface) := by show _ = _; rw [dataK_ok h1]; rfl
    have DB : Hid (errR (dataK b) = .nilIface) := by show _ = _; rw [dataK_ok h2]; rfl
    have SKA : Hid (sumsK a = sumsD a) := if_pos (dataK_ok h1)
    have SKB : Hid (sumsK b = sumsD b) := if_pos (dataK_ok h2)
    obtain rfl : n = n' := by omega
    have HXA := Lib.hid hxa
    have HXB := Lib.hid hxb
    have OKA := Lib.hid h1
    have OKB := Lib.hid h2
    have HQ := Lib.hid (sameB_no h4)
    have hn1 : 1 ≤ n := by
      rcases Nat.eq_zero_or_pos n with h0 | h0
      · exact absurd ((List.eq_nil_of_length_eq_zero (hxa.trans h0)).trans (List.eq_nil_of_length_eq_zero (hxb.trans h0)).symm) h4
      · exact h0
    have H5 := Lib.hid h5
    obtain ⟨cl, hcl⟩ : ∃ cl, cl = clashL a b := ⟨_, rfl⟩
    obtain ⟨x, y⟩ := cl
    rw [← hcl]
    have HCL : Hid (clashL a b = (x, y)) := hcl.symm
    clear h1 h2 h3 h4 h5 hk hxa hxb hcl
    go_enter Tryd.func16, Tryd.ntmps16
    go_wp2_with fail
    generalize w.alloc (.cells #[.string ⟨#[]⟩, .string ⟨#[]⟩] 44) = w0 at *
    refine (tleafs_any A n c a _ (hr.ext E0) hm).mono ?_
    rw [DA.out]
    rintro _ w1 ⟨⟨v1, rfl, own1⟩, hb1⟩
    obtain ⟨A1, c1, rfl, hc1, R1⟩ := own1.rd
    have z1 := z0.ext hb1
    have E1 := E0.trans hb1
    clear own1
    go_wp2_with fail
    refine (tleafs_any A' n c' b _ (hr'.ext E1) hm').mono ?_
    rw [DB.out]
    rintro _ w2 ⟨⟨v2, rfl, own2⟩, hb2⟩
    obtain ⟨A2, c2, rfl, hc2, R2⟩ := own2.rd
    have z2 := z1.ext hb2
    have E2 := E1.trans hb2
    have R1' := R1.ext hb2
    clear own2
    rw [SKA.out, sumsD_len a, HXA.out] at R1'
    rw [SKB.out, sumsD_len b, HXB.out] at R2
    rw [SKA.out, SKB.out, sumsD_len a, sumsD_len b, HXA.out, HXB.out]
    go_wp2_with fail
    refine (SEq_any A A' n n c c' a b _ (hr.ext E2) (hr'.ext E2) hm hm').mono ?_
    rw [HQ.out]
    rintro _ w3 ⟨rfl, hb3⟩
    have z3 := z2.ext hb3
    have E3 := E2.trans hb3
    have R1'' := R1'.ext hb3
    have R2' := R2.ext hb3
    clear R1 R1' R2
    have hn2 : n ≤ 200 := by have := OKA.out.1; rw [HXA.out] at this; exact this
    go_wp2_with fail
    refine (Of_any n A1 n c1 (sumsD a) _ (Nat.le_refl _) R1'' hc1 (by omega) (allV_sumsD a)).mono ?_
    rintro _ w4 ⟨rfl, hb4⟩
    have z4 := z3.ext hb4
    have E4 := E3.trans hb4
    go_wp2_with fail
    refine (Of_any n A2 n c2 (sumsD b) _ (Nat.le_refl _) (R2'.ext hb4) hc2 (by omega) (allV_sumsD b)).mono ?_
    rintro _ w5 ⟨rfl, hb5⟩
    have z5 := z4.ext hb5
    have E5 := E4.trans hb5
    rw [H5.out]
    go_wp2_with fail
    refine (differ_any n A A' A1 A2 n c c' c1 c2 a b _ (Nat.le_refl _) (hr.ext E5) (hr'.ext E5) (R1''.ext (hb4.trans hb5)) ((R2'.ext hb4).ext hb5) hm hm' hc1 hc2 hn1 (by omega) (fun s hs => by have := OKA.out.2 s hs; omega) (fun s hs => by have := OKB.out.2 s hs; omega)).mono ?_
    rw [HCL.out]
    rintro _ w6 ⟨rfl, hb6⟩
    have B6 := (z5.ext hb6)
    have E6 := (E5.trans hb6)
    have p0 := B6.cell 0
    have p1 := B6.cell 1
    have p2 := B6.frozen 0
    have p3 := B6.frozen 1
    have B7 := (B6.set_ 0 (.string x)).set_ 1 (.string y)
    have g0 := B7.cell 0
    have g1 := B7.cell 1
    simp at g0 g1
    have E7 := (E6.setCell (p := ⟨w.heap.size, 0, none⟩) (Nat.le_refl _) (.string x)).setCell (p := ⟨w.heap.size, 1, none⟩) (Nat.le_refl _) (.string y)
    go_wp2_with fail
    refine bodyPost_ret (by simp [results, Tryd.results16, go_sem, g0, g1]; try rfl) rfl ?_
    exact ⟨rfl, E7⟩
end Go.Proofs.YtdpfebokbikgfaaDoor

/- Two faces of a log: plain; and wittop.one. -/
namespace Go.Proofs.YtdpfebokbikgfaaDoor
open Go.RowKit Go.WideShapes
set_option linter.unusedVariables false
attribute [local go_sem ↓] Go.wp_at_zero Go.wp_at_succ

/-- the head that serve tells -/
theorem sh_parts {es : List Ent} {key now : Int} (h : shK es key now = 0) : entsOk es ∧ shH es key now = ⟨(es.length : Int), ofL (es.map Ent.leaf), now, signI (lgB es.length (ofL (es.map Ent.leaf)) now) key⟩ ∧ verK (shH es key now) key = 0 ∧ keyI key = true := by
  have hk : entsOk es := Classical.byContradiction fun hn => by
    have h1 := entsErr_bad hn
    unfold shK at h
    rw [if_pos h1] at h
    exact h1 h
  have h0 := entsErr_ok hk
  have hs : sgnK (lgB es.length (ofL (es.map Ent.leaf)) now) key = 0 := by
    unfold shK at h
    rwa [if_neg (not_not_intro h0)] at h
  have hh : shH es key now = sgnH (lgB es.length (ofL (es.map Ent.leaf)) now) key := by unfold shH; rw [if_neg (not_not_intro h0)]
  obtain ⟨a1, a2, a3, a4⟩ := sgn_ver hs
  exact ⟨hk, hh.trans a4, by rw [hh]; exact a1, a2⟩
theorem entB_inj {a b : Ent} (ha : a.ok) (hb : b.ok) (h : a.bytes = b.bytes) : a = b := by
  have h1 := takeE_bytes a ⟨#[]⟩ ha
  have h2 := takeE_bytes b ⟨#[]⟩ hb
  rw [h, h2] at h1
  injection h1 with h1
  injection h1 with h1
  exact h1.symm
theorem entsB_inj : ∀ {a b : List Ent}, (∀ e ∈ a, e.ok) → (∀ e ∈ b, e.ok) → a.map Ent.bytes = b.map Ent.bytes → a = b
  | [], [], _, _, _ => rfl
  | [], y :: b, _, _, h => by cases h
  | x :: a, [], _, _, h => by cases h
  | x :: a, y :: b, ha, hb, h => by
    rw [List.map_cons, List.map_cons] at h
    injection h with h1 h2
    rw [entB_inj (ha x (by simp)) (hb y (by simp)) h1, entsB_inj (fun e he => ha e (by simp [he])) (fun e he => hb e (by simp [he])) h2]
theorem sums_bytes (es : List Ent) : sumsD (es.map Ent.bytes) = es.map Ent.leaf := by
  unfold sumsD
  rw [List.map_map]
  refine List.map_congr_left fun e _ => ?_
  simp only [Function.comp_apply, Ent.leaf]
/-! ### two texts of one sum -/
theorem str0_inj {x y : ByteArray} (h : str0 x = str0 y) : x = y := by
  have h1 := congrArg (fun s : ByteArray => s.data.toList) h
  simp only [str0, toList_cat] at h1
  have h2 := List.append_cancel_left h1
  cases x; cases y
  simp at h2
  rw [h2]
theorem sum_str0 (x : ByteArray) : sumL (str0 x).data.toList = leafL x.data.toList := by unfold str0; rw [toList_cat]; rfl
theorem sum_topS (k : Nat) (a : List ByteArray) : sumL (topS k a).data.toList = nodeL (ofL ((sumsD a).take k)) (ofL ((sumsD a).drop k)) := rfl
theorem topS_size (k : Nat) (a : List ByteArray) : (topS k a).size = 9 := rfl
theorem str0_size (x : ByteArray) : (str0 x).size = 1 + x.size := by unfold str0; rw [size_cat]; rfl
theorem ofL_sums_node {a : List ByteArray} (h2 : 2 ≤ a.length) (hn : a.length ≤ 4096) : ofL (sumsD a) = nodeL (ofL ((sumsD a).take (half a.length))) (ofL ((sumsD a).drop (half a.length))) := by
  have := ofL_node (xs := sumsD a) (by rw [sumsD_len]; exact h2) (by rw [sumsD_len]; exact hn)
  rwa [sumsD_len] at this
theorem clash_law (N : Nat) : ∀ (a b : List ByteArray), a.length ≤ N → 1 ≤ a.length → a.length ≤ 4096 → a.length = b.length → (∀ s ∈ a, s.size ≤ 200) → (∀ s ∈ b, s.size ≤ 200) → a ≠ b → ofL (sumsD a) = ofL (sumsD b) →
    (clashL a b).1 ≠ (clashL a b).2 ∧ sumL (clashL a b).1.data.toList = sumL (clashL a b).2.data.toList ∧ (clashL a b).1.size ≤ 1000 ∧ (clashL a b).2.size ≤ 1000 := by
  induction N with
  | zero => intro a b h h1; omega
  | succ N ih =>
    intro a b h h1 hn hl ha hb hne ho
    by_cases h2 : 2 ≤ a.length
    · have hk := half_lt h2 hn
      have hk0 := half_pos a.length
      have hna := ofL_sums_node h2 hn
      have hnb := ofL_sums_node (a := b) (by omega) (by omega)
      rw [← hl] at hnb
      by_cases ht : topB (half a.length) a = topB (half a.length) b
      · obtain ⟨e1, e2⟩ := nodeB_inj (vld_ofL (allV_take (allV_sumsD a) _) (by rw [List.length_take, sumsD_len]; omega)) (vld_ofL (allV_drop (allV_sumsD a) _) (by rw [List.length_drop, sumsD_len]; omega)) (vld_ofL (allV_take (allV_sumsD b) _) (by rw [List.length_take, sumsD_len]; omega)) (vld_ofL (allV_drop (allV_sumsD b) _) (by rw [List.length_drop, sumsD_len]; omega)) ht
        rw [sumsD_take, sumsD_take] at e1
        rw [sumsD_drop, sumsD_drop] at e2
        by_cases he : a.take (half a.length) = b.take (half a.length)
        · rw [clashL_right h2 hn ht he]
          refine ih _ _ (by rw [List.length_drop]; omega) (by rw [List.length_drop]; omega) (by rw [List.length_drop]; omega) (by rw [List.length_drop, List.length_drop, hl]) (fun s hs => ha s (List.mem_of_mem_drop hs)) (fun s hs => hb s (List.mem_of_mem_drop hs)) ?_ e2
          intro hd
          apply hne
          rw [← List.take_append_drop (half a.length) a, ← List.take_append_drop (half a.length) b, List.take_append_drop, List.take_append_drop] at *
          rw [← List.take_append_drop (half a.length) a, he, hd, List.take_append_drop]
        · rw [clashL_left h2 hn ht he]
          exact ih _ _ (by rw [List.length_take]; omega) (by rw [List.length_take]; omega) (by rw [List.length_take]; omega) (by rw [List.length_take, List.length_take, hl]) (fun s hs => ha s (List.mem_of_mem_take hs)) (fun s hs => hb s (List.mem_of_mem_take hs)) he e1
      · rw [clashL_top h2 hn ht]
        refine ⟨fun e => topS_ne ht (congrArg ByteArray.toList e), ?_, by rw [topS_size]; omega, by rw [topS_size]; omega⟩
        rw [sum_topS, sum_topS, ← hna, ← hnb, ho]
    · have h0 : a.length = 1 := by omega
      obtain ⟨x, rfl⟩ := List.length_eq_one_iff.1 h0
      obtain ⟨y, rfl⟩ := List.length_eq_one_iff.1 (hl ▸ h0 : b.length = 1)
      rw [clashL_one]
      have hx := ha x (by simp)
      have hy := hb y (by simp)
      refine ⟨fun e => hne (by rw [str0_inj e]), ?_, by rw [str0_size]; omega, by rw [str0_size]; omega⟩
      rw [sum_str0, sum_str0]
      have h3 : ofL [leafL x.data.toList] = ofL [leafL y.data.toList] := ho
      rwa [ofL_one, ofL_one] at h3
/-- two lists of one root clash -/
theorem two_clash {l o : List Ent} (hl : entsOk l) (ho : entsOk o) (hn : l.length = o.length) (h1 : 1 ≤ l.length) (hne : l ≠ o) (hsl : ∀ s ∈ l.map Ent.bytes, s.size ≤ 200) (hso : ∀ s ∈ o.map Ent.bytes, s.size ≤ 200) (hr : ofL (l.map Ent.leaf) = ofL (o.map Ent.leaf)) :
    collK (l.map Ent.bytes) (o.map Ent.bytes) = 0 ∧ (collV (l.map Ent.bytes) (o.map Ent.bytes)).1 ≠ (collV (l.map Ent.bytes) (o.map Ent.bytes)).2 ∧ sumL (collV (l.map Ent.bytes) (o.map Ent.bytes)).1.data.toList = sumL (collV (l.map Ent.bytes) (o.map Ent.bytes)).2.data.toList ∧ (collV (l.map Ent.bytes) (o.map Ent.bytes)).1.size ≤ 1000 ∧ (collV (l.map Ent.bytes) (o.map Ent.bytes)).2.size ≤ 1000 := by
  have hb : l.map Ent.bytes ≠ o.map Ent.bytes := fun e => hne (entsB_inj hl.2 ho.2 e)
  have hll : (l.map Ent.bytes).length = (o.map Ent.bytes).length := by rw [List.length_map, List.length_map, hn]
  have hd1 : dataOk (l.map Ent.bytes) := ⟨by rw [List.length_map]; exact hl.1, hsl⟩
  have hd2 : dataOk (o.map Ent.bytes) := ⟨by rw [List.length_map]; exact ho.1, hso⟩
  have hs : ofL (sumsD (l.map Ent.bytes)) = ofL (sumsD (o.map Ent.bytes)) := by rw [sums_bytes, sums_bytes, hr]
  have hk : collK (l.map Ent.bytes) (o.map Ent.bytes) = 0 := by
    unfold collK
    rw [dataK_ok hd1, dataK_ok hd2, if_neg (by decide), if_neg (by decide), if_neg (not_not_intro hll), if_neg hb, if_neg (not_not_intro hs)]
  have hv : collV (l.map Ent.bytes) (o.map Ent.bytes) = clashL (l.map Ent.bytes) (o.map Ent.bytes) := if_pos hk
  rw [hv]
  exact ⟨hk, clash_law (l.map Ent.bytes).length _ _ (Nat.le_refl _) (by rw [List.length_map]; exact h1) (by have := hd1.1; omega) hll hsl hso hb hs⟩

/-! ### the closed fact -/
theorem half2 : half 2 = 1 := by decide
theorem one_way : wayL [5, 6] 1 = [5] := by
  rw [wayL, dif_pos (by rw [show ([5, 6] : List Int).length = 2 from rfl, half2]; decide)]
  show (if 1 < half 2 then _ else wayL (List.drop (half 2) [5, 6]) (1 - half 2) ++ [ofL (List.take (half 2) [5, 6])]) = _
  rw [half2, if_neg (by decide)]
  show wayL [6] 0 ++ [ofL [5]] = [5]
  rw [ofL_one, wayL, dif_neg (by decide)]
  rfl
theorem one_leafs : leafsOk [5, 6] := ⟨by decide, by decide⟩
theorem one_pm : pmK [5, 6] 1 2 = 0 ∧ pmV [5, 6] 1 2 = [5] := by
  have h := pmK_ok (i := 1) (m := 2) one_leafs ⟨by decide, by decide, by decide⟩
  exact ⟨h, by unfold pmV; rw [if_pos h]; exact one_way⟩
theorem one_steps : stepsN 1 2 = 1 := by
  rw [stepsN, dif_pos (by rw [half2]; decide), half2, if_neg (by decide)]
  show stepsN 0 1 + 1 = 1
  rw [stepsN, dif_neg (by decide)]
theorem one_check : pcheck (nodeL 5 6) 2 1 6 [5] = 0 := by
  refine pcheck_ok ⟨by decide, by decide, by decide⟩ ⟨vld_node 5 6, by decide, by decide⟩ (by show 1 = stepsN 1 2; rw [one_steps]) ?_
  show upL 1 2 6 [5] = nodeL 5 6
  rw [upL, dif_pos (by rw [half2]; decide), half2, if_neg (by decide)]
  show nodeL ([5].getLastD 0) (upL 0 1 6 ([5] : List Int).dropLast) = nodeL 5 6
  rw [upL, dif_neg (by decide)]
  rfl
theorem two_rd (w : World) : Rd (w.alloc (.cells #[.int .i64 5, .int .i64 6] 3)) 1 (some ⟨w.heap.size, 0, none⟩) 2 2 (([5, 6] : List Int).map (Value.int .i64)) :=
  ⟨rfl, Nat.le_refl _, fun _ => ⟨_, rfl, by simp, news_new w 3 _ _ rfl⟩⟩
set_option maxRecDepth 100000 in
set_option maxHeartbeats 1000000 in
theorem one_any (w : World) : Calls Tryd.prog 8 #[] w fun e w' => e = .returned (.bool true) ∧ Ext w w' := by
  have HPM : Hid (∀ W, Calls Tryd.prog 34 #[.slice (some ⟨W.heap.size, 0, none⟩) 2 2, .int .i64 1, .int .i64 2] (W.alloc (.cells #[.int .i64 5, .int .i64 6] 3)) fun e w' => (∃ A c, e = .returned (.tuple #[.slice (some A) 1 c, .nilIface]) ∧ c ≤ maxLen ∧ Rd w' 1 (some A) 1 c ([5].map (Value.int .i64)) ∧ w'.cell? (A.add 0) = some (.int .i64 5)) ∧ Ext W w') := Lib.hid fun W => by
    have h := PMake_any (some ⟨W.heap.size, 0, none⟩) 2 2 [5, 6] 1 2 (W.alloc (.cells #[.int .i64 5, .int .i64 6] 3)) (two_rd W) (by simp [maxLen])
    rw [one_pm.1, one_pm.2] at h
    refine h.mono fun e w' hh => ?_
    obtain ⟨⟨v, h1, h2⟩, h3⟩ := hh
    obtain ⟨A, c, hv, hc, hr⟩ := h2.rd
    obtain ⟨ad, hA, _, hcell⟩ := hr.getI (j := 0) (z := 5) rfl
    subst hA
    subst hv
    exact ⟨⟨ad, c, h1, hc, hr, hcell⟩, ((Ext.refl W).alloc _).trans h3⟩
  have HPC : Hid (∀ W A c, Rd W 1 (some A) 1 c ([5].map (Value.int .i64)) → c ≤ maxLen → Calls Tryd.prog 35 #[.int .i64 (nodeL 5 6), .int .i64 2, .int .i64 1, .int .i64 6, .slice (some A) 1 c] W fun e w' => e = .returned .nilIface ∧ Ext W w') := Lib.hid fun W A c hr hc => by
    have h := PCheck_any (nodeL 5 6) 2 1 6 (some A) 1 c [5] W hr hc
    rw [one_check] at h
    exact h
  have HN := Lib.hid fun W => Node_ok 5 6 W (by decide) (by decide)
  obtain ⟨nd, hnd⟩ : ∃ x, nodeL 5 6 = x := ⟨_, rfl⟩
  rw [hnd] at HPC HN
  clear hnd
  go_enter Tryd.func8, Tryd.ntmps8
  go_wp2_with fail
  refine (HN.out _).mono ?_
  rintro _ w1 ⟨rfl, hb1⟩
  go_wp2_with fail
  refine (HPM.out w1).mono ?_
  rintro _ w2 ⟨⟨A, c, rfl, hc, hr, hcell⟩, hb2⟩
  have HR := Lib.hid hr
  have hcl : w2.cell? A = some (.int .i64 5) := by rw [add_zero'] at hcell; exact hcell
  have h1c : 1 ≤ c := hr.2.1
  clear hr
  go_wp2_with fail
  refine (HPC.out _ A c HR.out hc).mono ?_
  rintro _ w3 ⟨rfl, hb3⟩
  go_wp2_with fail
  go_ret
  exact ⟨rfl, (hb1.trans hb2).trans hb3⟩
end Go.Proofs.YtdpfebokbikgfaaDoor
