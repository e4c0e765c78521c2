import Derived.Test.YtcpnhmjibihpkaaPCheck
import Derived.Test.YtcpnhmjibihpkaaUp
import Derived.Lib.SlicesS
namespace Go.Proofs.Ytcpnhmjibihpkaa
open Go.RowKit Go.WideShapes
set_option linter.unusedVariables false

theorem half_done {n q : Nat} (h1 : 1 ≤ n) (hn : n ≤ 4096) (hq : ∃ j, q = 2 ^ j) (h : q < n ∨ q = 1) (h' : n ≤ 2 * q) : half n = q := by
  obtain ⟨j, rfl⟩ := hq
  by_cases h2 : 2 ≤ n
  · have : 2 ^ j < n := by
      rcases h with h | h
      · exact h
      · omega
    exact half_eq h2 hn this (by rw [Nat.pow_succ]; omega)
  · obtain rfl : n = 1 := by omega
    have e1 : half 1 = 1 := by decide
    rw [e1]
    rcases h with h | h
    · have := Nat.one_le_two_pow (n := j); omega
    · exact h.symm

theorem RHalf_any (n : Nat) (w : World) (h1 : 1 ≤ n) (hn : n ≤ 4096) :
    Calls Try.prog 97 #[.int .i64 n] w fun e w' => e = .returned (.int .i64 (half n : Nat)) ∧ w = w' := by
  go_enter Try.func97, Try.ntmps97
  go_wp2_with fail
  go_loop [3] (fun a => ∃ q : Nat, a = .int .i64 q ∧ Hid (∃ j, q = 2 ^ j) ∧ (q < n ∨ q = 1) ∧ 1 ≤ q) (fun a => n - (intOf a).toNat)
  case atStart => exact ⟨1, rfl, ⟨0, rfl⟩, .inr rfl, Nat.le_refl _⟩
  case round =>
    obtain ⟨q, rfl, HJ, hq, hq1⟩ := hrel
    by_cases hc : 2 * q < n
    · go_wp2_with fail
      go_round
      case rel => exact ⟨2 * q, by go_num, (by obtain ⟨j, hj⟩ := HJ.out; exact ⟨j + 1, by rw [hj, Nat.pow_succ]; omega⟩), .inl hc, by omega⟩
      case measure => simp [intOf]; omega
    · have HH := Lib.hid (half_done h1 hn HJ.out hq (by omega))
      go_wp2_with fail
      go_ret
      exact ⟨ret_int (by rw [HH.out]), rfl⟩

set_option maxHeartbeats 1000000 in
theorem RSteps_any (N : Nat) : ∀ (i n : Nat) (w : World), n ≤ N → i < n → n ≤ 4096 →
    Calls Try.prog 96 #[.int .i64 i, .int .i64 n] w fun e w' => e = .returned (.int .i64 (stepsN i n : Nat)) ∧ w = w' := by
  induction N with
  | zero => intro i n w h h'; omega
  | succ N ih =>
    intro i n w hN hi hn
    have IH := Lib.hid ih
    clear ih
    by_cases h2 : 2 ≤ n
    · have hk := half_lt h2 hn
      have hk0 := half_pos n
      have hk' := half_le h2 hn
      have hs0 := stepsN_lt n i n (Nat.le_refl _) hn (by omega)
      by_cases hik : i < half n
      · have hs := stepsN_left h2 hn hik
        have hlt := stepsN_lt (half n) i (half n) (Nat.le_refl _) (by omega) (by omega)
        have HS := Lib.hid hs
        clear hs
        go_enter Try.func96, Try.ntmps96
        go_wp2_with fail
        refine (RHalf_any n _ (by omega) hn).mono ?_
        rintro e w' ⟨rfl, rfl⟩
        go_wp2_with fail
        refine (IH.out i (half n) _ (by omega) hik (by omega)).mono ?_
        rintro e w' ⟨rfl, rfl⟩
        go_wp2_with fail
        go_ret
        exact ⟨ret_int (by rw [HS.out]; omega), rfl⟩
      · have hs := stepsN_right h2 hn hik
        have hlt := stepsN_lt (n - half n) (i - half n) (n - half n) (Nat.le_refl _) (by omega) (by omega)
        have HS := Lib.hid hs
        clear hs
        have e1 : Hid ((i : Int) - (half n : Int) = ((i - half n : Nat) : Int)) := by show _ = _; omega
        have e2 : Hid ((n : Int) - (half n : Int) = ((n - half n : Nat) : Int)) := by show _ = _; omega
        go_enter Try.func96, Try.ntmps96
        go_wp2_with fail
        refine (RHalf_any n _ (by omega) hn).mono ?_
        rintro e w' ⟨rfl, rfl⟩
        go_wp2_with fail
        rw [e1.out, e2.out]
        refine (IH.out (i - half n) (n - half n) _ (by omega) (by omega) (by omega)).mono ?_
        rintro e w' ⟨rfl, rfl⟩
        go_wp2_with fail
        go_ret
        exact ⟨ret_int (by rw [HS.out]; omega), rfl⟩
    · obtain rfl : n = 1 := by omega
      have HS := Lib.hid (stepsN_one i (n := 1) (by omega))
      go_enter Try.func96, Try.ntmps96
      go_wp2_with fail
      go_ret
      exact ⟨ret_int (by rw [HS.out]; rfl), rfl⟩

theorem turn_l {i n i' n' m k : Nat} {b' : Bool} (HT : turnL i n k = if k = m then b' else turnL i' n' k) (hc : k < m) (h2 : 2 ≤ n') (hn : n' ≤ 4096) (hik : i' < half n') (hm : m = stepsN i' n') :
    turnL i n k = if k = m - 1 then decide (half n' ≤ i') else turnL i' (half n') k := by
  have hs := stepsN_left h2 hn hik
  rw [HT, if_neg (by omega), turnL_left h2 hn hik]
  by_cases e : stepsN i' (half n') = k
  · rw [if_pos e, if_pos (by omega)]; simp; omega
  · rw [if_neg e, if_neg (by omega)]
theorem turn_r {i n i' n' m k : Nat} {b' : Bool} (HT : turnL i n k = if k = m then b' else turnL i' n' k) (hc : k < m) (h2 : 2 ≤ n') (hn : n' ≤ 4096) (hik : ¬ i' < half n') (hm : m = stepsN i' n') :
    turnL i n k = if k = m - 1 then decide (half n' ≤ i') else turnL (i' - half n') (n' - half n') k := by
  have hs := stepsN_right h2 hn hik
  rw [HT, if_neg (by omega), turnL_right h2 hn hik]
  by_cases e : stepsN (i' - half n') (n' - half n') = k
  · rw [if_pos e, if_pos (by omega)]; simp; omega
  · rw [if_neg e, if_neg (by omega)]

set_option maxHeartbeats 1000000 in
theorem RTurn_any (i n k : Nat) (w : World) (hi : i < n) (hn : n ≤ 200) (hk : k < stepsN i n) :
    Calls Try.prog 73 #[.int .i64 i, .int .i64 n, .int .i64 k] w fun e w' => e = .returned (.bool (turnL i n k)) ∧ w = w' := by
  have hs0 := stepsN_lt n i n (Nat.le_refl _) (by omega) (by omega)
  go_enter Try.func73, Try.ntmps73
  go_wp2_with fail
  refine (RSteps_any n i n _ (Nat.le_refl _) hi (by omega)).mono ?_
  rintro e w' ⟨rfl, rfl⟩
  go_wp2_with fail
  go_loop [0, 1, 8, 9] (fun a b l s => ∃ (i' n' m : Nat) (b' : Bool) (s' : Int), a = .int .i64 i' ∧ b = .int .i64 n' ∧ l = .bool b' ∧ s = .int .i64 s' ∧ s' + 1 = m ∧ i' < n' ∧ n' ≤ 200 ∧ m = stepsN i' n' ∧ k ≤ m ∧ Hid (turnL i n k = if k = m then b' else turnL i' n' k)) (fun _ _ _ s => (intOf s + 1).toNat)
  case atStart => exact ⟨i, n, stepsN i n, false, _, rfl, rfl, rfl, rfl, (by have e9 : wrap64 ((stepsN i n : Nat) - 1 : Int) = (stepsN i n : Nat) - 1 := (by unfold wrap64; omega); first | omega | (rw [e9]; omega)), hi, hn, rfl, by omega, by show _ = _; rw [if_neg (by omega)]⟩
  case round =>
    obtain ⟨i', n', m, b', s', rfl, rfl, rfl, rfl, hsm, hi', hn', hm, hkm, HT⟩ := hrel
    have hm0 := stepsN_lt n' i' n' (Nat.le_refl _) (by omega) (by omega)
    have e9 : wrap64 (s' - 1) = s' - 1 := by unfold wrap64; omega
    by_cases hc : k < m
    · have h2 : 2 ≤ n' := by
        rcases Nat.lt_or_ge n' 2 with h | h
        · rw [stepsN_one i' (by omega)] at hm; omega
        · exact h
      have hh := half_lt h2 (by omega)
      have hh0 := half_pos n'
      by_cases hik : i' < half n'
      · have HS := Lib.hid (stepsN_left h2 (by omega) hik)
        have HTT := Lib.hid (turn_l HT.out hc h2 (by omega) hik hm)
        have HM := Lib.hid hm
        clear hm
        go_wp2_with fail
        refine (RHalf_any n' _ (by omega) (by omega)).mono ?_
        rintro e w' ⟨rfl, rfl⟩
        go_wp2_with fail
        go_round
        case rel => exact ⟨i', half n', m - 1, _, _, rfl, rfl, rfl, rfl, (by first | (rw [e9]; omega) | omega), hik, by omega, (by rw [HM.out, HS.out]; rfl), by omega, HTT⟩
        case measure =>
          simp only [intOf]; first | omega | (rw [e9]; omega)
      · have HS := Lib.hid (stepsN_right h2 (by omega) hik)
        have HTT := Lib.hid (turn_r HT.out hc h2 (by omega) hik hm)
        have HM := Lib.hid hm
        clear hm
        go_wp2_with fail
        refine (RHalf_any n' _ (by omega) (by omega)).mono ?_
        rintro e w' ⟨rfl, rfl⟩
        go_wp2_with fail
        go_round
        case rel => exact ⟨i' - half n', n' - half n', m - 1, _, _, by go_num, by go_num, rfl, rfl, (by first | (rw [e9]; omega) | omega), by omega, by omega, (by rw [HM.out, HS.out]; rfl), by omega, HTT⟩
        case measure =>
          simp only [intOf]; first | omega | (rw [e9]; omega)
    · have HR : Hid (turnL i n k = b') := by show _ = _; rw [HT.out, if_pos (by omega)]
      have HM := Lib.hid hm
      clear hm
      go_wp2_with fail
      go_ret
      exact ⟨ret_bool HR.out.symm, rfl⟩

def strB (l : List UInt8) : ByteArray := ⟨l.toArray⟩
theorem strB_ne {a b : List UInt8} (h : a ≠ b) : strB a ≠ strB b := fun e => h (by have := congrArg (fun s => s.data.toList) e; simpa [strB] using this)

set_option maxHeartbeats 1000000 in
theorem RStep_any (a : Int) (i n : Nat) (A : Option Addr) (m c : Nat) (ps : List Int) (k : Nat) (w : World) (hr : Rd w 1 A m c (ps.map (Value.int .i64))) (hi : i < n) (hn : n ≤ 200) (hm : m = stepsN i n) (hk : k < m) (ha : vld a = true) (hv : allV ps = true) :
    Calls Try.prog 37 #[.int .i64 a, .int .i64 i, .int .i64 n, .slice A m c, .int .i64 k] w fun e w' => e = .returned (.tuple #[.int .i64 (stepL (turnL i n k) a (nthI ps k)), .string (strB (stepB (turnL i n k) a (nthI ps k)))]) ∧ Ext w w' := by
  have hx := hr.lenI
  have hz : ps[k]? = some (nthI ps k) := nthI_get (by omega)
  obtain ⟨ad, rfl, hb, hcell⟩ := hr.getI hz
  have hvz := allV_get hv hz
  generalize nthI ps k = z at *
  have hs0 := stepsN_lt n i n (Nat.le_refl _) (by omega) (by omega)
  have hks : k < stepsN i n := by omega
  have HM := Lib.hid hm
  have HX := Lib.hid hx
  clear hm hx hv hz
  have hml : m ≤ 200 := by have := HM.out; omega
  cases ht : turnL i n k
  · have HT := Lib.hid ht
    have HS : Hid (sumL (strB (nodeB a z)).data.toList = stepL false a z) := by show sumL (nodeB a z).toArray.toList = _; rw [List.toList_toArray]; rfl
    clear ht
    go_enter Try.func37, Try.ntmps37
    go_wp2_with fail
    refine (RTurn_any i n k _ hi hn hks).mono ?_
    rintro e w' ⟨rfl, rfl⟩
    rw [HT.out]
    go_wp2_with fail
    refine (NodeBytes_ok a z _ ha hvz).mono ?_
    rintro e w1 ⟨rfl, hb1⟩
    go_wp2_with fail
    refine (Sum_any (strB (nodeB a z)) _ (by show (9 : Nat) ≤ _; simp [maxLen])).mono ?_
    rintro e w2 ⟨rfl, hb2⟩
    rw [HS.out]
    go_wp2_with fail
    go_ret2
    exact ⟨rfl, by (repeat (with_reducible first | exact Ext.refl _ | assumption | refine Ext.drew ?_ | refine Ext.drewN ?_ _ | refine Ext.alloc ?_ _ | refine Ext.trans ?_ (by with_reducible assumption)))⟩
  · have HT := Lib.hid ht
    have HS : Hid (sumL (strB (nodeB z a)).data.toList = stepL true a z) := by show sumL (nodeB z a).toArray.toList = _; rw [List.toList_toArray]; rfl
    clear ht
    go_enter Try.func37, Try.ntmps37
    go_wp2_with fail
    refine (RTurn_any i n k _ hi hn hks).mono ?_
    rintro e w' ⟨rfl, rfl⟩
    rw [HT.out]
    go_wp2_with fail
    refine (NodeBytes_ok z a _ hvz ha).mono ?_
    rintro e w1 ⟨rfl, hb1⟩
    go_wp2_with fail
    refine (Sum_any (strB (nodeB z a)) _ (by show (9 : Nat) ≤ _; simp [maxLen])).mono ?_
    rintro e w2 ⟨rfl, hb2⟩
    rw [HS.out]
    go_wp2_with fail
    go_ret2
    exact ⟨rfl, by (repeat (with_reducible first | exact Ext.refl _ | assumption | refine Ext.drew ?_ | refine Ext.drewN ?_ _ | refine Ext.alloc ?_ _ | refine Ext.trans ?_ (by with_reducible assumption)))⟩

set_option maxHeartbeats 2000000 in
theorem RMeets_any (a b : Int) (i n : Nat) (A : Option Addr) (m c : Nat) (ps : List Int) (k : Nat) (w : World) (hr : Rd w 1 A m c (ps.map (Value.int .i64))) (hi : i < n) (hn : n ≤ 200) (hm : m = stepsN i n) (hk : k ≤ m) (ha : vld a = true) (hb : vld b = true) (hv : allV ps = true) (hab : a ≠ b)
    (hu : upF (turnL i n) (nthI ps) (m - k) k a = upF (turnL i n) (nthI ps) (m - k) k b) :
    Calls Try.prog 36 #[.int .i64 a, .int .i64 b, .int .i64 i, .int .i64 n, .slice A m c, .int .i64 k] w fun e w' => e = .returned (.bool true) ∧ Ext w w' := by
  have hx := hr.lenI
  have hs0 := stepsN_lt n i n (Nat.le_refl _) (by omega) (by omega)
  have hml : m ≤ 200 := by omega
  have HM := Lib.hid hm
  have HX := Lib.hid hx
  have HU := Lib.hid hu
  have HAB := Lib.hid hab
  clear hu hm hx hab
  go_enter Try.func36, Try.ntmps36
  go_wp2_with fail
  go_loopw [0, 1, 13] (fun x y j wr => ∃ (a' b' : Int) (k' : Nat), x = .int .i64 a' ∧ y = .int .i64 b' ∧ j = .int .i64 k' ∧ k' ≤ m ∧ Ext w wr ∧ vld a' = true ∧ vld b' = true ∧ Hid (a' ≠ b') ∧ Hid (upF (turnL i n) (nthI ps) (m - k') k' a' = upF (turnL i n) (nthI ps) (m - k') k' b')) (fun _ _ j _ => m - (intOf j).toNat)
  case atStart => exact ⟨a, b, k, rfl, rfl, rfl, hk, by (repeat (with_reducible first | exact Ext.refl _ | assumption | refine Ext.drew ?_ | refine Ext.drewN ?_ _ | refine Ext.alloc ?_ _ | refine Ext.trans ?_ (by with_reducible assumption))), ha, hb, HAB, HU⟩
  case round =>
    obtain ⟨a', b', k', rfl, rfl, rfl, hk', hbw, ha', hb', HAB', HU'⟩ := hrel
    by_cases hc : k' < m
    · have hz : ps[k']? = some (nthI ps k') := nthI_get (by have := HX.out; omega)
      have hvz := allV_get hv hz
      have va := vld_stepL (turnL i n k') a' (nthI ps k')
      have vb := vld_stepL (turnL i n k') b' (nthI ps k')
      have hu2 : upF (turnL i n) (nthI ps) (m - (k' + 1)) (k' + 1) (stepL (turnL i n k') a' (nthI ps k')) = upF (turnL i n) (nthI ps) (m - (k' + 1)) (k' + 1) (stepL (turnL i n k') b' (nthI ps k')) := by
        have := HU'.out
        rw [show m - k' = (m - (k' + 1)) + 1 by omega] at this
        exact this
      have hB : strB (stepB (turnL i n k') a' (nthI ps k')) ≠ strB (stepB (turnL i n k') b' (nthI ps k')) := strB_ne fun e => HAB'.out (stepB_inj ha' hvz hb' hvz e).1
      have S1 := Lib.hid fun (W : World) (e : Ext w W) => RStep_any a' i n A m c ps k' W (hr.ext e) hi hn HM.out hc ha' hv
      have S2 := Lib.hid fun (W : World) (e : Ext w W) => RStep_any b' i n A m c ps k' W (hr.ext e) hi hn HM.out hc hb' hv
      clear hz hvz
      generalize stepL (turnL i n k') a' (nthI ps k') = x at *
      generalize stepL (turnL i n k') b' (nthI ps k') = y at *
      generalize strB (stepB (turnL i n k') a' (nthI ps k')) = tx at *
      generalize strB (stepB (turnL i n k') b' (nthI ps k')) = ty at *
      have HU2 := Lib.hid hu2
      have HB : Hid ((!tx.toList == ty.toList) = true) := by show _ = _; rw [(Lib.bytes_beq_false_iff tx ty).2 hB]; rfl
      clear hu2 hB
      by_cases he : x = y
      · subst he
        go_wp2_with fail
        refine (S1.out _ (by (repeat (with_reducible first | exact Ext.refl _ | assumption | refine Ext.drew ?_ | refine Ext.drewN ?_ _ | refine Ext.alloc ?_ _ | refine Ext.trans ?_ (by with_reducible assumption))))).mono ?_
        rintro e w1 ⟨rfl, hb1⟩
        go_wp2_with fail
        refine (S2.out _ (by (repeat (with_reducible first | exact Ext.refl _ | assumption | refine Ext.drew ?_ | refine Ext.drewN ?_ _ | refine Ext.alloc ?_ _ | refine Ext.trans ?_ (by with_reducible assumption))))).mono ?_
        rintro e w2 ⟨rfl, hb2⟩
        go_wp2_with fail
        go_ret
        exact ⟨ret_bool HB.out, by (repeat (with_reducible first | exact Ext.refl _ | assumption | refine Ext.drew ?_ | refine Ext.drewN ?_ _ | refine Ext.alloc ?_ _ | refine Ext.trans ?_ (by with_reducible assumption)))⟩
      · have HE := Lib.hid he
        go_wp2_with fail
        refine (S1.out _ (by (repeat (with_reducible first | exact Ext.refl _ | assumption | refine Ext.drew ?_ | refine Ext.drewN ?_ _ | refine Ext.alloc ?_ _ | refine Ext.trans ?_ (by with_reducible assumption))))).mono ?_
        rintro e w1 ⟨rfl, hb1⟩
        go_wp2_with fail
        refine (S2.out _ (by (repeat (with_reducible first | exact Ext.refl _ | assumption | refine Ext.drew ?_ | refine Ext.drewN ?_ _ | refine Ext.alloc ?_ _ | refine Ext.trans ?_ (by with_reducible assumption))))).mono ?_
        rintro e w2 ⟨rfl, hb2⟩
        go_wp2_with fail
        go_roundw
        case rel => exact ⟨_, _, k' + 1, rfl, rfl, by go_num, by omega, by (repeat (with_reducible first | exact Ext.refl _ | assumption | refine Ext.drew ?_ | refine Ext.drewN ?_ _ | refine Ext.alloc ?_ _ | refine Ext.trans ?_ (by with_reducible assumption))), va, vb, HE, HU2⟩
        case measure => simp [intOf]; omega
    · exact absurd (by have := HU'.out; rwa [show m - k' = 0 by omega] at this) HAB'.out
end Go.Proofs.Ytcpnhmjibihpkaa
