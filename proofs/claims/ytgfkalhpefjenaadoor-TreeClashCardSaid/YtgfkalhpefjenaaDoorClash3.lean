import Derived.Test.YtgfkalhpefjenaaDoorClash2
namespace Go.Proofs.YtgfkalhpefjenaaDoor
open Go.RowKit Go.WideShapes
set_option linter.unusedVariables false
attribute [local go_sem ↓] Go.wp_at_zero Go.wp_at_succ

set_option maxRecDepth 100000 in
theorem SEq_any (A A' : Option Addr) (n n' c c' : Nat) (xs ys : List ByteArray) (w : World) (hr : Rd w 1 A n c (xs.map Value.string)) (hr' : Rd w 1 A' n' c' (ys.map Value.string)) (hm : c ≤ maxLen) (hm' : c' ≤ maxLen) :
    Calls Tryd.prog 121 #[.slice A n c, .slice A' n' c'] w fun e w' => e = .returned (.bool (sameB xs ys)) ∧ Ext w w' := by
  have HX := Lib.hid hr.lenS
  have HY := Lib.hid hr'.lenS
  have hl := hr.2.1
  have hl' := hr'.2.1
  unfold maxLen at hm hm'
  by_cases hn : n = n'
  · subst hn
    go_enter Tryd.func121, Tryd.ntmps121
    go_wp2_with fail
    go_loopw [13] (fun x wr => ∃ j : Nat, x = .int .i64 j ∧ j ≤ n ∧ Ext w wr ∧ Hid (xs.take j = ys.take j)) (fun x _ => n - (intOf x).toNat)
    case atStart => exact ⟨0, rfl, Nat.zero_le _, by (repeat (with_reducible first | exact Ext.refl _ | assumption | refine Ext.drew ?_ | refine Ext.drewN ?_ _ | refine Ext.alloc ?_ _ | refine Ext.trans ?_ (by with_reducible assumption))), rfl⟩
    case round =>
      obtain ⟨j, rfl, hj, hbw, HK⟩ := hrel
      by_cases hc : j < n
      · have h1 := List.getElem?_eq_getElem (l := xs) (i := j) (by rw [HX.out]; exact hc)
        have h2 := List.getElem?_eq_getElem (l := ys) (i := j) (by rw [HY.out]; exact hc)
        generalize xs[j]'(by rw [HX.out]; exact hc) = y at *
        generalize ys[j]'(by rw [HY.out]; exact hc) = z at *
        obtain ⟨ad, rfl, hb, c0⟩ := (hr.ext hbw).getS h1
        obtain ⟨ad', rfl, hb', c0'⟩ := (hr'.ext hbw).getS h2
        have hcN : (j : Int) < (n : Int) := by omega
        have h0N : (0 : Int) ≤ (j : Int) := by omega
        by_cases e : y = z
        · subst e
          have HT := Lib.hid (take_same HK.out h1 h2)
          clear h1 h2
          go_wp2_with fail
          go_quiet (fail)
          go_wp2_with fail
          go_roundw
          case rel => exact ⟨j + 1, by go_num, by omega, by (repeat (with_reducible first | exact Ext.refl _ | assumption | refine Ext.drew ?_ | refine Ext.drewN ?_ _ | refine Ext.alloc ?_ _ | refine Ext.trans ?_ (by with_reducible assumption))), HT⟩
          case measure => simp [intOf]; omega
        · have HT := Lib.hid (sameB_no (take_part h1 h2 e))
          have e1 := (Lib.bytes_beq_false_iff y z).2 e
          clear h1 h2 e
          go_wp2_with fail
          go_quiet (fail)
          go_wp2_with fail
          go_ret
          exact ⟨ret_bool HT.out.symm, by (repeat (with_reducible first | exact Ext.refl _ | assumption | refine Ext.drew ?_ | refine Ext.drewN ?_ _ | refine Ext.alloc ?_ _ | refine Ext.trans ?_ (by with_reducible assumption)))⟩
      · obtain rfl : j = n := by omega
        have HT := Lib.hid (sameB_yes (take_whole HK.out HX.out HY.out))
        go_wp2_with fail
        go_ret
        exact ⟨ret_bool HT.out.symm, by (repeat (with_reducible first | exact Ext.refl _ | assumption | refine Ext.drew ?_ | refine Ext.drewN ?_ _ | refine Ext.alloc ?_ _ | refine Ext.trans ?_ (by with_reducible assumption)))⟩
  · have HT : Hid (sameB xs ys = false) := sameB_no (by intro e; rw [e, HY.out] at HX; exact hn HX.out.symm)
    have e1 : ((n : Int) != (n' : Int)) = true := by simp; omega
    clear hn
    go_enter Tryd.func121, Tryd.ntmps121
    go_wp2_with fail
    go_ret
    exact ⟨ret_bool HT.out.symm, by (repeat (with_reducible first | exact Ext.refl _ | assumption | refine Ext.drew ?_ | refine Ext.drewN ?_ _ | refine Ext.alloc ?_ _ | refine Ext.trans ?_ (by with_reducible assumption)))⟩

set_option maxRecDepth 100000 in
theorem Texts_any (A A' : Option Addr) (n n' c c' : Nat) (xs ys : List ByteArray) (w : World) (hr : Rd w 1 A n c (xs.map Value.string)) (hr' : Rd w 1 A' n' c' (ys.map Value.string)) (hm : c ≤ maxLen) (hm' : c' ≤ maxLen) :
    Calls Tryd.prog 73 #[.slice A n c, .slice A' n' c'] w fun e w' => e = .returned (.bool (sameB xs ys)) ∧ Ext w w' := by
  have HX := Lib.hid hr.lenS
  have HY := Lib.hid hr'.lenS
  have hl := hr.2.1
  have hl' := hr'.2.1
  unfold maxLen at hm hm'
  by_cases hn : n = n'
  · subst hn
    go_enter Tryd.func73, Tryd.ntmps73
    go_wp2_with fail
    go_loopw [5] (fun x wr => ∃ j : Nat, x = .int .i64 j ∧ j ≤ n ∧ Ext w wr ∧ Hid (xs.take j = ys.take j)) (fun x _ => n - (intOf x).toNat)
    case atStart => exact ⟨0, rfl, Nat.zero_le _, by (repeat (with_reducible first | exact Ext.refl _ | assumption | refine Ext.drew ?_ | refine Ext.drewN ?_ _ | refine Ext.alloc ?_ _ | refine Ext.trans ?_ (by with_reducible assumption))), rfl⟩
    case round =>
      obtain ⟨j, rfl, hj, hbw, HK⟩ := hrel
      by_cases hc : j < n
      · have h1 := List.getElem?_eq_getElem (l := xs) (i := j) (by rw [HX.out]; exact hc)
        have h2 := List.getElem?_eq_getElem (l := ys) (i := j) (by rw [HY.out]; exact hc)
        generalize xs[j]'(by rw [HX.out]; exact hc) = y at *
        generalize ys[j]'(by rw [HY.out]; exact hc) = z at *
        obtain ⟨ad, rfl, hb, c0⟩ := (hr.ext hbw).getS h1
        obtain ⟨ad', rfl, hb', c0'⟩ := (hr'.ext hbw).getS h2
        have hcN : (j : Int) < (n : Int) := by omega
        have h0N : (0 : Int) ≤ (j : Int) := by omega
        by_cases e : y = z
        · subst e
          have HT := Lib.hid (take_same HK.out h1 h2)
          clear h1 h2
          go_wp2_with fail
          go_quiet (fail)
          go_wp2_with fail
          go_roundw
          case rel => exact ⟨j + 1, by go_num, by omega, by (repeat (with_reducible first | exact Ext.refl _ | assumption | refine Ext.drew ?_ | refine Ext.drewN ?_ _ | refine Ext.alloc ?_ _ | refine Ext.trans ?_ (by with_reducible assumption))), HT⟩
          case measure => simp [intOf]; omega
        · have HT := Lib.hid (sameB_no (take_part h1 h2 e))
          have e1 := (Lib.bytes_beq_false_iff y z).2 e
          clear h1 h2 e
          go_wp2_with fail
          go_quiet (fail)
          go_wp2_with fail
          go_ret
          exact ⟨ret_bool HT.out.symm, by (repeat (with_reducible first | exact Ext.refl _ | assumption | refine Ext.drew ?_ | refine Ext.drewN ?_ _ | refine Ext.alloc ?_ _ | refine Ext.trans ?_ (by with_reducible assumption)))⟩
      · obtain rfl : j = n := by omega
        have HT := Lib.hid (sameB_yes (take_whole HK.out HX.out HY.out))
        go_wp2_with fail
        go_ret
        exact ⟨ret_bool HT.out.symm, by (repeat (with_reducible first | exact Ext.refl _ | assumption | refine Ext.drew ?_ | refine Ext.drewN ?_ _ | refine Ext.alloc ?_ _ | refine Ext.trans ?_ (by with_reducible assumption)))⟩
  · have HT : Hid (sameB xs ys = false) := sameB_no (by intro e; rw [e, HY.out] at HX; exact hn HX.out.symm)
    have e1 : ((n : Int) != (n' : Int)) = true := by simp; omega
    clear hn
    go_enter Tryd.func73, Tryd.ntmps73
    go_wp2_with fail
    go_ret
    exact ⟨ret_bool HT.out.symm, by (repeat (with_reducible first | exact Ext.refl _ | assumption | refine Ext.drew ?_ | refine Ext.drewN ?_ _ | refine Ext.alloc ?_ _ | refine Ext.trans ?_ (by with_reducible assumption)))⟩

/-! ### tree.leafs -/
def allS (l : List ByteArray) : Bool := l.all fun s => decide (s.size ≤ 200)
theorem allS_snoc {l : List ByteArray} {k : Nat} {z : ByteArray} (hz : l[k]? = some z) : allS (l.take (k + 1)) = (allS (l.take k) && decide (z.size ≤ 200)) := by
  obtain ⟨h, rfl⟩ := List.getElem?_eq_some_iff.1 hz
  unfold allS
  rw [List.take_succ_eq_append_getElem h, List.all_append]
  simp only [List.all_cons, List.all_nil, Bool.and_true]
theorem allS_no {l : List ByteArray} {k : Nat} {z : ByteArray} (hz : l[k]? = some z) (hv : ¬ z.size ≤ 200) : allS l = false := by
  cases h : allS l
  · rfl
  · exact absurd (of_decide_eq_true (List.all_eq_true.1 h z (List.mem_of_getElem? hz))) hv
theorem dataK_allS {l : List ByteArray} (h : l.length ≤ 200) : dataK l = if allS l = true then 0 else 4 := by
  cases hs : allS l
  · rw [if_neg (by decide)]
    refine dataK_bad fun hk => ?_
    have : allS l = true := List.all_eq_true.2 fun s hs => decide_eq_true (hk.2 s hs)
    rw [hs] at this; cases this
  · rw [if_pos rfl]
    exact dataK_ok ⟨h, fun s hm => of_decide_eq_true (List.all_eq_true.1 hs s hm)⟩
theorem tlong_any (s : ByteArray) (w : World) : Calls Tryd.prog 145 #[.string s] w fun e w' => e = .returned (.bool (decide (200 < s.size))) ∧ w = w' := by
  by_cases h : 200 < s.size
  · rw [decide_eq_true h]
    go_enter Tryd.func145, Tryd.ntmps145
    go_wp2_with fail
    go_ret
    exact ⟨ret_bool (decide_eq_true (by omega)), rfl⟩
  · rw [decide_eq_false h]
    go_enter Tryd.func145, Tryd.ntmps145
    go_wp2_with fail
    go_ret
    exact ⟨ret_bool (decide_eq_false (by omega)), rfl⟩
theorem tlong_run : ∀ (v : Value) (w : World), (callFunc 145 #[v]).run Tryd.prog w = .ok (.enter 145 #[v]) w := fun v w => by kernel_rfl
def idxS (l : List ByteArray) (e : Ending) : Prop := ∃ i : Int, e = .returned (.int .i64 i) ∧ (allS l = true → i = -1) ∧ (allS l = false → 0 ≤ i)
set_option maxRecDepth 100000 in
theorem SIndexFunc_any (A : Option Addr) (n c : Nat) (l : List ByteArray) (w : World) (hr : Rd w 1 A n c (l.map Value.string)) (hm : c ≤ maxLen) :
    Calls Tryd.prog 154 #[.slice A n c, .func (.func 145) #[] #[]] w fun e w' => idxS l e ∧ w = w' := by
  have hl : n ≤ c := hr.2.1
  have HX := Lib.hid hr.lenS
  have hrun := tlong_run
  unfold maxLen at hm
  go_enter Tryd.func154, Tryd.ntmps154
  go_wp2
  go_loop [8] (fun i => ∃ k : Nat, k ≤ n ∧ i = .int .i64 k ∧ Hid (allS (l.take k) = true)) (fun i => n - (intOf i).toNat)
  case atStart => exact ⟨0, Nat.zero_le _, rfl, rfl⟩
  case round =>
    obtain ⟨k, hk, rfl, HK⟩ := hrel
    by_cases hlt : k < n
    · obtain ⟨z, hz⟩ : ∃ z, l[k]? = some z := ⟨_, List.getElem?_eq_getElem (by rw [HX.out]; exact hlt)⟩
      obtain ⟨ad, hA, hb, hcell⟩ := hr.getS hz
      subst hA
      by_cases hv : z.size ≤ 200
      · have HN : Hid (allS (l.take (k + 1)) = true) := by show _ = _; rw [allS_snoc hz, HK.out, decide_eq_true hv]; rfl
        clear hz
        go_wp2_with fail
        refine (tlong_any z _).mono ?_
        rw [decide_eq_false (by omega)]
        rintro e w' ⟨rfl, rfl⟩
        go_wp2_with fail
        go_round
        case rel => exact ⟨k + 1, by omega, by go_num, HN⟩
        case measure => simp [intOf]; omega
      · have HN : Hid (idxS l (.returned (.int .i64 (k : Int)))) := ⟨_, rfl, (fun h => by rw [allS_no hz hv] at h; cases h), (fun _ => by omega)⟩
        clear hz
        go_wp2_with fail
        refine (tlong_any z _).mono ?_
        rw [decide_eq_true (by omega)]
        rintro e w' ⟨rfl, rfl⟩
        go_wp2_with fail
        go_ret
        exact ⟨HN.out, rfl⟩
    · obtain rfl : k = n := by omega
      have HN : Hid (idxS l (.returned (.int .i64 (-1)))) := by
        have h := HK.out
        rw [List.take_of_length_le (by rw [HX.out]; exact Nat.le_refl _)] at h
        exact ⟨_, rfl, (fun _ => rfl), (fun h' => by rw [h] at h'; cases h')⟩
      go_wp2_with fail
      go_ret
      exact ⟨HN.out, rfl⟩
theorem SContains_any (A : Option Addr) (n c : Nat) (l : List ByteArray) (w : World) (hr : Rd w 1 A n c (l.map Value.string)) (hm : c ≤ maxLen) :
    Calls Tryd.prog 144 #[.slice A n c, .func (.func 145) #[] #[]] w fun e w' => e = .returned (.bool (!allS l)) ∧ w = w' := by
  go_enter Tryd.func144, Tryd.ntmps144
  go_wp2_with fail
  refine (SIndexFunc_any A n c l _ hr hm).mono ?_
  rintro e w' ⟨hi, rfl⟩
  unfold idxS at hi
  obtain ⟨i, rfl, h1, h2⟩ := hi
  cases hs : allS l
  · have := h2 hs
    have HS := Lib.hid hs
    clear h1 h2 hs
    go_wp2_with fail
    go_ret
    exact ⟨ret_bool (by rw [HS.out]; rfl), rfl⟩
  · obtain rfl := h1 hs
    have HS := Lib.hid hs
    clear h1 h2 hs
    go_wp2_with fail
    go_ret
    exact ⟨ret_bool (by rw [HS.out]; rfl), rfl⟩

def sumsK (l : List ByteArray) : List Int := if dataK l = 0 then sumsD l else []
set_option maxRecDepth 100000 in
set_option maxHeartbeats 1000000 in
theorem tleafs_any (A : Option Addr) (n c : Nat) (l : List ByteArray) (w : World) (hr : Rd w 1 A n c (l.map Value.string)) (hm : c ≤ maxLen) :
    Calls Tryd.prog 120 #[.slice A n c] w fun e w' => (∃ v, e = .returned (.tuple #[v, errR (dataK l)]) ∧ OwnI w w' v (sumsK l)) ∧ Ext w w' := by
  have hx := hr.lenS
  have hlc := hr.2.1
  by_cases h2 : n ≤ 200
  · have hK := dataK_allS (l := l) (by omega)
    cases hs : allS l
    · rw [hs, if_neg (by decide)] at hK
      have HE : Hid (errR (dataK l) = errV 4) := by show _ = _; rw [hK]; rfl
      have HV : Hid (sumsK l = []) := by show _ = _; unfold sumsK; rw [if_neg (by rw [hK]; decide)]
      have HS := Lib.hid hs
      rw [HE.out, HV.out]
      clear hx hK hs
      go_enter Tryd.func120, Tryd.ntmps120
      go_wp2_with fail
      refine (SContains_any A n c l _ hr hm).mono ?_
      rw [HS.out]
      rintro e w' ⟨rfl, rfl⟩
      go_wp2_with fail
      go_ret2
      exact ⟨⟨_, rfl, own_nil _ _ _ _⟩, by (repeat (with_reducible first | exact Ext.refl _ | assumption | refine Ext.drew ?_ | refine Ext.drewN ?_ _ | refine Ext.alloc ?_ _ | refine Ext.trans ?_ (by with_reducible assumption)))⟩
    · rw [hs, if_pos rfl] at hK
      have HE : Hid (errR (dataK l) = .nilIface) := by show _ = _; rw [hK]; rfl
      have HV : Hid (sumsK l = sumsD l) := by show _ = _; unfold sumsK; rw [if_pos hK]
      have HD := Lib.hid (dataK_zero hK)
      have HS := Lib.hid hs
      have HX := Lib.hid hx
      rw [HE.out, HV.out]
      obtain ⟨i0, hi0, hz0, hz1, hz2⟩ := info_parts info_int
      clear hx hK hs
      go_enter Tryd.func120, Tryd.ntmps120
      go_wp2_with fail
      refine (SContains_any A n c l _ hr hm).mono ?_
      rw [HS.out]
      rintro e w' ⟨rfl, rfl⟩
      go_wp2_with fail
      go_loopw [4, 17] (fun v x wr => ∃ j : Nat, x = .int .i64 j ∧ j ≤ n ∧ Ext w wr ∧ Hid (OwnI w wr v (sumsD (l.take j)))) (fun _ x _ => n - (intOf x).toNat)
      case atStart => exact ⟨0, rfl, Nat.zero_le _, by (repeat (with_reducible first | exact Ext.refl _ | assumption | refine Ext.drew ?_ | refine Ext.drewN ?_ _ | refine Ext.alloc ?_ _ | refine Ext.trans ?_ (by with_reducible assumption))), own_nil _ _ _ _⟩
      case round =>
        obtain ⟨j, rfl, hj, hbw, hown⟩ := hrel
        by_cases hc : j < n
        · have hgj := List.getElem?_eq_getElem (l := l) (i := j) (by rw [HX.out]; exact hc)
          obtain ⟨ad, rfl, hb, hcell⟩ := (hr.ext hbw).getS hgj
          have HT := Lib.hid (sumsD_snoc hgj)
          have hsz := HD.out.2 _ (List.mem_of_getElem? hgj)
          have hlen := sumsD_len (l.take j)
          rw [List.length_take, HX.out, Nat.min_eq_left (by omega)] at hlen
          generalize l[j]'(by rw [HX.out]; exact hc) = e at *
          generalize sumsD (l.take j) = L at *
          have hlL : L.length ≤ 4096 := by omega
          have hbw0 := hbw.size
          clear hgj hlen
          go_wp2_with fail
          refine (Leaf_any e _ (by omega)).mono ?_
          rintro _ w1 ⟨rfl, hb1⟩
          have hs1 := hb1.size
          go_wp2_with (at_builtin; refine wpl_app (by rfl) _ _ _ (by rfl) w.heap.size 3 i0 _ 1 8 Tryd.underlying36 hi0 hz0 hz1 hz2 rfl (by omega) u4 _ _ (by rfl) ((own_ext hown.out hb1).alloc _) w1.heap.size 1 [.int .i64 (leafL e.data.toList)] rfl (by rfl) (news_new w1 _ _ _ rfl) (oneI _) (by omega) (by omega) (by simp; omega) ?_; intro g cap w3 own3 hext3)
          go_roundw
          case rel => exact ⟨j + 1, by go_num, by omega, hext3 _ (Nat.le_refl _) (by (repeat (with_reducible first | exact Ext.refl _ | assumption | refine Ext.drew ?_ | refine Ext.drewN ?_ _ | refine Ext.alloc ?_ _ | refine Ext.trans ?_ (by with_reducible assumption)))), OwnI.mk own3 (by rw [HT.out]; simp) (by rw [HT.out]; simp)⟩
          case measure => simp [intOf]; omega
        · obtain rfl : j = n := by omega
          have HT : Hid (l.take j = l) := by show _ = _; rw [List.take_of_length_le (by rw [HX.out]; exact Nat.le_refl _)]
          rw [HT.out] at hown
          go_wp2_with fail
          go_ret2
          exact ⟨⟨_, rfl, hown.out⟩, by (repeat (with_reducible first | exact Ext.refl _ | assumption | refine Ext.drew ?_ | refine Ext.drewN ?_ _ | refine Ext.alloc ?_ _ | refine Ext.trans ?_ (by with_reducible assumption)))⟩
  · have hK : dataK l = 4 := dataK_bad fun h => by have := h.1; omega
    have HE : Hid (errR (dataK l) = errV 4) := by show _ = _; rw [hK]; rfl
    have HV : Hid (sumsK l = []) := by show _ = _; unfold sumsK; rw [if_neg (by rw [hK]; decide)]
    rw [HE.out, HV.out]
    clear hx hK
    go_enter Tryd.func120, Tryd.ntmps120
    go_wp2_with fail
    go_ret2
    exact ⟨⟨_, rfl, own_nil _ _ _ _⟩, by (repeat (with_reducible first | exact Ext.refl _ | assumption | refine Ext.drew ?_ | refine Ext.drewN ?_ _ | refine Ext.alloc ?_ _ | refine Ext.trans ?_ (by with_reducible assumption)))⟩
end Go.Proofs.YtgfkalhpefjenaaDoor
