/- The references' parts. -/
import Derived.Test.YtgfkalhpefjenaaDoorR2
import Derived.Test.YtgfkalhpefjenaaDoorPeaksPure
namespace Go.Proofs.YtgfkalhpefjenaaDoor
open Go.RowKit Go.WideShapes
set_option linter.unusedVariables false
attribute [local go_sem ↓] Go.wp_at_zero Go.wp_at_succ

theorem pow_pos2 (i : Nat) : 1 ≤ 2 ^ i := Nat.one_le_two_pow
theorem parts_next {n J i r : Nat} (xs : List Int) (hi : i < J) (hr : n % 2 ^ J = r) (h1 : 2 ^ i ≤ r) (h2 : r < 2 ^ (i + 1)) :
    partsF xs i (n / 2 ^ i) = ofL (seg xs (n - r) (2 ^ i)) :: partsF xs J (n / 2 ^ J) ∧ n % 2 ^ i = r - 2 ^ i := by
  obtain ⟨d, rfl⟩ : ∃ d, J = i + 1 + d := ⟨J - (i + 1), by omega⟩
  have hp := pow_pos2 i
  have hpd := pow_pos2 d
  have hq := Nat.div_add_mod n (2 ^ (i + 1 + d))
  rw [hr] at hq
  have e1 : 2 ^ (i + 1 + d) = 2 ^ i * (2 * 2 ^ d) := by rw [Nat.pow_add, Nat.pow_succ, Nat.mul_assoc]
  obtain ⟨q, hqd⟩ : ∃ q, q = n / 2 ^ (i + 1 + d) := ⟨_, rfl⟩
  rw [← hqd] at hq
  have e2 : 2 ^ (i + 1) = 2 * 2 ^ i := by rw [Nat.pow_succ, Nat.mul_comm]
  have hn : n = 2 ^ i * (2 * (2 ^ d * q) + 1) + (r - 2 ^ i) := by
    rw [Nat.mul_add, Nat.mul_one, ← Nat.mul_assoc 2, ← Nat.mul_assoc (2 ^ i), ← e1]
    omega
  have hdiv : n / 2 ^ i = 2 * (2 ^ d * q) + 1 := by
    rw [hn, Nat.mul_add_div (by omega), Nat.div_eq_of_lt (by omega), Nat.add_zero]
  have hmod : n % 2 ^ i = r - 2 ^ i := by
    rw [hn, Nat.mul_add_mod, Nat.mod_eq_of_lt (by omega)]
  refine ⟨?_, hmod⟩
  rw [hdiv, partsF_odd xs i (by omega), ← hqd]
  have h3 : (2 * (2 ^ d * q) + 1) / 2 = 2 ^ d * q := by omega
  rw [h3, show 2 ^ d * q = q * 2 ^ d from Nat.mul_comm _ _, partsF_pow]
  congr 3
  rw [e2]
  have : n - r = 2 ^ i * (2 * 2 ^ d) * q := by rw [← e1]; omega
  rw [this, Nat.mul_comm q, ← Nat.mul_assoc, ← Nat.mul_assoc]
  rw [Nat.mul_right_comm (2 ^ d) q 2, Nat.mul_comm (2 ^ d) 2, Nat.mul_right_comm (2 * 2 ^ d) q, Nat.mul_comm (2 * 2 ^ d) (2 ^ i), ← Nat.mul_assoc]
theorem parts_done {n J : Nat} (xs : List Int) (hr : n % 2 ^ J = 0) : partsF xs J (n / 2 ^ J) = partsF xs 0 n := by
  have hq := Nat.div_add_mod n (2 ^ J)
  rw [hr, Nat.add_zero, Nat.mul_comm] at hq
  have := partsF_pow xs (n / 2 ^ J) J 0
  rw [hq, Nat.zero_add] at this
  exact this.symm
theorem half_pow (i : Nat) : 2 ^ (i + 1) / 2 = 2 ^ i := by rw [Nat.pow_succ]; omega
theorem seg_front (xs : List Int) {f k : Nat} (h : f ≤ xs.length) : (xs.drop f).take k = seg xs f k := by
  unfold seg
  rw [List.take_drop]

set_option maxRecDepth 100000 in
set_option maxHeartbeats 2000000 in
theorem RParts_any (A : Option Addr) (n c : Nat) (xs : List Int) (w : World) (hr : Rd w 1 A n c (xs.map (Value.int .i64))) (hm : c ≤ maxLen) (hn : n ≤ 255) (hv : allV xs = true) :
    Calls Tryd.prog 29 #[.slice A n c] w fun e w' => (∃ v, e = .returned v ∧ OwnI w w' v (partsF xs 0 n).reverse) ∧ Ext w w' := by
  have HX := Lib.hid hr.lenI
  obtain ⟨i0, hi0, hz0, hz1, hz2⟩ := info_parts info_int
  go_enter Tryd.func29, Tryd.ntmps29
  go_wp2_with fail
  go_loopw [0, 3, 4] (fun l v k wr => ∃ (J p r c' : Nat) (A' : Option Addr), l = .slice A' r c' ∧ k = .int .i64 (p : Nat) ∧ Hid (p = 2 ^ J) ∧ J ≤ 8 ∧ r ≤ n ∧ c' ≤ c ∧ Hid (n % 2 ^ J = r) ∧ Rd w 1 A' r c' ((xs.drop (n - r)).map (Value.int .i64)) ∧ Ext w wr ∧ Hid (OwnI w wr v (partsF xs J (n / 2 ^ J)).reverse)) (fun l _ _ _ => match l with | .slice _ r _ => r | _ => 0)
  case atStart =>
    refine ⟨8, 256, n, c, A, rfl, rfl, rfl, Nat.le_refl _, Nat.le_refl _, Nat.le_refl _, ?_, ?_, by (repeat (with_reducible first | exact Ext.refl _ | assumption | refine Ext.drew ?_ | refine Ext.drewN ?_ _ | refine Ext.alloc ?_ _ | refine Ext.trans ?_ (by with_reducible assumption))), ?_⟩
    · show n % 256 = n; omega
    · rw [Nat.sub_self, List.drop_zero]; exact hr
    · have : n / 2 ^ 8 = 0 := by show n / 256 = 0; omega
      rw [this, partsF_zero]; exact own_nil _ _ _ _
  case round =>
    obtain ⟨J, p, r, c', A', rfl, rfl, HP, hJ, hrn, hcc, HR, R, hbw, hown⟩ := hrel
    have hlc := R.2.1
    by_cases h0 : 0 < r
    · have hp256 : p ≤ 256 := by rw [HP.out]; exact Nat.pow_le_pow_right (by decide) hJ
      have HHi : Hid (r < 2 ^ J) := by show _ < _; rw [← HR.out]; exact Nat.mod_lt _ (pow_pos2 J)
      have hms : c' ≤ 9223372036854775807 := by unfold maxLen at hm; omega
      go_wp2_with fail
      go_loopw [4] (fun k wi => ∃ (i q : Nat), k = .int .i64 q ∧ Hid (q = 2 ^ i) ∧ i ≤ J ∧ Hid (r < 2 ^ (i + 1)) ∧ q ≤ 256 ∧ wr = wi) (fun k _ => (intOf k).toNat)
      case atStart => exact ⟨J, p, rfl, HP, Nat.le_refl _, Nat.lt_of_lt_of_le HHi.out (by rw [Nat.pow_succ]; omega), hp256, rfl⟩
      case round =>
        obtain ⟨i, q, rfl, HQ, hi, HRi, hq256, rfl⟩ := hrel
        by_cases hc : r < q
        · obtain ⟨i', rfl⟩ : ∃ i', i = i' + 1 := by
            cases i with
            | zero => have := HQ.out; simp at this; omega
            | succ i' => exact ⟨i', rfl⟩
          have HH : Hid ((q : Int) / 2 = ((q / 2 : Nat) : Int)) := by show _ = _; omega
          have HQ2 : Hid (q / 2 = 2 ^ i') := by show _ = _; rw [HQ.out, half_pow]
          have HR2 : Hid (r < 2 ^ (i' + 1)) := by show _ < _; rw [← HQ.out]; exact hc
          go_wp2_with fail
          go_roundw
          case rel => exact ⟨i', q / 2, by rw [HH.out], HQ2, by omega, HR2, by omega, trivial⟩
          case measure => simp [intOf]; omega
        · have hqr : q ≤ r := by omega
          have hiJ : i < J := by
            rcases Nat.lt_or_ge i J with h | h
            · exact h
            · have h1 := Nat.pow_le_pow_right (n := 2) (by decide) h
              have h2 := HHi.out
              have h3 := HQ.out
              omega
          obtain ⟨PN1, PN2⟩ := parts_next xs hiJ HR.out (by rw [← HQ.out]; exact hqr) HRi.out
          have HN1 := Lib.hid PN1
          have HN2 := Lib.hid PN2
          have HXL := HX.out
          have HSF := Lib.hid (seg_front xs (f := n - r) (k := q) (by omega))
          have RT := R.takeI (k := q) hqr
          rw [HSF.out] at RT
          have hlen : (partsF xs J (n / 2 ^ J)).length ≤ 4096 := by
            rw [partsF_len xs (n / 2 ^ J) J _ (Nat.le_refl _)]
            have h1 := ones_le (n / 2 ^ J) _ (Nat.le_refl _)
            have h2 := Nat.div_le_self n (2 ^ J)
            omega
          have hbw0 := hbw.size
          rw [← HQ.out] at HN1 HN2
          generalize hLL : partsF xs J (n / 2 ^ J) = L at *
          have hrevl : L.reverse.length ≤ 4096 := by rw [List.length_reverse]; exact hlen
          obtain ⟨M, hM⟩ : ∃ M, L.reverse = M := ⟨_, rfl⟩
          rw [hM] at hown hrevl
          have HM := Lib.hid hM
          have hq1 : 1 ≤ q := by rw [HQ.out]; exact pow_pos2 i
          have hsl : (seg xs (n - r) q).length ≤ 4096 := by unfold seg; simp; omega
          have hsv := allV_seg hv (n - r) q
          clear PN1 PN2 hLL HXL hM
          go_wp2_with fail
          refine (RRoot_any q A' q c' _ _ (Nat.le_refl _) (RT.ext hbw) (by simp only [maxLen]; omega) (by omega) hsv).mono ?_
          rintro _ w1 ⟨rfl, hb1⟩
          have hs1 := hb1.size
          have RD := R.dropI (k := q) hqr
          have HDD : Hid ((xs.drop (n - r)).drop q = xs.drop (n - (r - q))) := by show _ = _; rw [List.drop_drop]; congr 1; omega
          rw [HDD.out] at RD
          generalize ofL (seg xs (n - r) q) = z at *
          go_wp2_with (at_builtin; refine wpl_app (by rfl) _ _ _ (by rfl) w.heap.size 3 i0 _ 1 8 Tryd.underlying36 hi0 hz0 hz1 hz2 rfl (by omega) u3 _ _ (by rfl) ((own_ext hown.out hb1).alloc _) w1.heap.size 1 [.int .i64 z] rfl (by rfl) (news_new w1 _ _ _ rfl) (oneI _) (by omega) (by omega) (by simp; omega) ?_; intro g cap w3 own3 hext3)
          go_roundw
          case rel =>
            refine ⟨i, q, r - q, c' - q, _, rfl, rfl, HQ, by omega, by omega, by omega, by show _ = _; rw [← HQ.out]; exact HN2.out, RD, hext3 _ (Nat.le_refl _) (by (repeat (with_reducible first | exact Ext.refl _ | assumption | refine Ext.drew ?_ | refine Ext.drewN ?_ _ | refine Ext.alloc ?_ _ | refine Ext.trans ?_ (by with_reducible assumption)))), ?_⟩
            have e1 : (partsF xs i (n / 2 ^ i)).reverse = M ++ [z] := by rw [← HQ.out, HN1.out, List.reverse_cons, HM.out]
            rw [e1]
            exact OwnI.mk own3 (by simp) (by simp)
          case measure => simp; omega
    · obtain rfl : r = 0 := by omega
      have HD := Lib.hid (parts_done xs HR.out)
      rw [HD.out] at hown
      go_wp2_with fail
      go_ret
      exact ⟨⟨_, rfl, hown.out⟩, by (repeat (with_reducible first | exact Ext.refl _ | assumption | refine Ext.drew ?_ | refine Ext.drewN ?_ _ | refine Ext.alloc ?_ _ | refine Ext.trans ?_ (by with_reducible assumption)))⟩
end Go.Proofs.YtgfkalhpefjenaaDoor
