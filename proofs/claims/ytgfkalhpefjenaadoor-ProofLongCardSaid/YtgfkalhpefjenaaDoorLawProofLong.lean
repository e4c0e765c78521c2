import Derived.Test.YtgfkalhpefjenaaDoorProof
import Derived.Test.YtgfkalhpefjenaaDoorAs
namespace Go.Proofs.YtgfkalhpefjenaaDoor.proofLong
open Go.RowKit
set_option linter.unusedVariables false

theorem half_pow (k : Nat) (hk : k ≤ 11) : half (2 ^ (k + 1)) = 2 ^ k := by
  have h1 : 1 ≤ 2 ^ k := Nat.one_le_two_pow
  have h2 : 2 ^ (k + 1) ≤ 2 ^ 12 := Nat.pow_le_pow_right (by omega) (by omega)
  exact half_eq (by rw [Nat.pow_succ]; omega) (by omega) (by rw [Nat.pow_succ]; omega) (Nat.le_refl _)
theorem steps_pow : ∀ (k i : Nat), k ≤ 11 → i < 2 ^ k → stepsN i (2 ^ k) = k
  | 0, i, _, h => stepsN_one i (by simp)
  | k + 1, i, hk, h => by
    have h1 : 1 ≤ 2 ^ k := Nat.one_le_two_pow
    have h2 : 2 ^ (k + 1) ≤ 2 ^ 12 := Nat.pow_le_pow_right (by omega) (by omega)
    have hh := half_pow k (by omega)
    have hp : 2 ^ (k + 1) = 2 ^ k + 2 ^ k := by rw [Nat.pow_succ]; omega
    by_cases hi : i < 2 ^ k
    · rw [stepsN_left (by omega) (by omega) (by rw [hh]; exact hi), hh, steps_pow k i (by omega) hi]
    · rw [stepsN_right (by omega) (by omega) (by rw [hh]; exact hi), hh, show 2 ^ (k + 1) - 2 ^ k = 2 ^ k by omega, steps_pow k (i - 2 ^ k) (by omega) (by omega)]

set_option maxRecDepth 100000 in
set_option maxHeartbeats 1000000 in
theorem walk_yes (k : Nat) (i : Int) (w : World) (hk : k ≤ 7) (hg : ErrG w) :
    Calls Tryd.prog 5 #[.int .i64 k, .int .i64 i] w fun e w' => e = .returned (.bool true) ∧ Ext w w' := by
  have i1 : (k : Int) ≤ 7 := by omega
  have h128 : 2 ^ k ≤ 128 := Nat.pow_le_pow_right (n := 2) (by omega) hk
  have H1 : Hid (1 ≤ 2 ^ k) := Nat.one_le_two_pow
  go_enter Tryd.func5, Tryd.ntmps5
  go_wp2_with fail
  go_loop [5, 6] (fun a x => ∃ (q j : Nat), a = .int .i64 q ∧ x = .int .i64 j ∧ j ≤ k ∧ q ≤ 128 ∧ Hid (q = 2 ^ j)) (fun _ x => k - (intOf x).toNat)
  case atStart => exact ⟨1, 0, rfl, rfl, Nat.zero_le _, by omega, rfl⟩
  case round =>
    obtain ⟨q, j, rfl, rfl, hj, hq, HQ⟩ := hrel
    by_cases hc : j < k
    · have hq2 : 2 * q ≤ 128 := by
        have := Nat.pow_le_pow_right (n := 2) (by omega) (show j + 1 ≤ 7 by omega)
        rw [Nat.pow_succ] at this
        rw [HQ.out]; omega
      go_wp2_with fail
      go_round
      case rel => exact ⟨2 * q, j + 1, by go_num, by go_num, by omega, by omega, by show _ = _; rw [HQ.out, Nat.pow_succ, Nat.mul_comm]⟩
      case measure => simp [intOf]; omega
    · obtain rfl : j = k := by omega
      have H1' := H1.out
      rw [← HQ.out] at H1'
      by_cases hi : 0 ≤ i ∧ i < q
      · obtain ⟨h0, h1⟩ := hi
        obtain ⟨i, rfl⟩ := Int.eq_ofNat_of_zero_le h0
        have HS : Hid (stepsN i q = j) := by show _ = _; rw [HQ.out]; exact steps_pow j i (by omega) (by rw [← HQ.out]; omega)
        go_wp2_with fail
        refine (Steps_ok i q _ (by omega) (by omega) (by omega)).mono ?_
        rintro e w1 ⟨rfl, hb1⟩
        rw [Int.toNat_natCast, Int.toNat_natCast, HS.out]
        go_wp2_with fail
        go_ret
        exact ⟨rfl, by (repeat (with_reducible first | exact Ext.refl _ | assumption | refine Ext.drew ?_ | refine Ext.drewN ?_ _ | refine Ext.alloc ?_ _ | refine Ext.trans ?_ (by with_reducible assumption)))⟩
      · have hi' : i < 0 ∨ (0 ≤ i ∧ (q : Int) ≤ i) := by omega
        have HI := Lib.hid hi
        have HER : Hid (errIs 1 1 = true) := rfl
        clear hi
        go_wp2_with fail
        refine (Steps_bad i q _ (fun h => HI.out ⟨h.1, h.2.1⟩)).mono ?_
        rintro e w1 ⟨rfl, hb1⟩
        rcases hi' with hi | ⟨hi, hi2⟩
        all_goals
          go_wp2_with fail
          refine (Error_any 1 1 _ (hg.ext hb1)).mono ?_
          rw [HER.out]
          rintro e w2 ⟨rfl, hb2⟩
          go_wp2_with fail
          go_ret
          exact ⟨rfl, by (repeat (with_reducible first | exact Ext.refl _ | assumption | refine Ext.drew ?_ | refine Ext.drewN ?_ _ | refine Ext.alloc ?_ _ | refine Ext.trans ?_ (by with_reducible assumption)))⟩
set_option maxRecDepth 100000 in
theorem walk (k i : Int) (w : World) (h0 : igood k) (h1 : igood i) (hg : ErrG w) :
    Calls Tryd.prog 5 #[.int .i64 k, .int .i64 i] w fun e w' => e = .returned (.bool true) ∧ Ext w w' := by
  by_cases hk : 0 ≤ k ∧ k ≤ 7
  · obtain ⟨k, rfl⟩ := Int.eq_ofNat_of_zero_le hk.1
    exact walk_yes k i w (by omega) hg
  · have h' : k < 0 ∨ (0 ≤ k ∧ 7 < k) := by omega
    clear hk h0 h1
    rcases h' with h | ⟨h, h'⟩
    all_goals
      go_enter Tryd.func5, Tryd.ntmps5
      go_wp2_with fail
      go_ret
      exact ⟨rfl, by (repeat (with_reducible first | exact Ext.refl _ | assumption | refine Ext.drew ?_ | refine Ext.drewN ?_ _ | refine Ext.alloc ?_ _ | refine Ext.trans ?_ (by with_reducible assumption)))⟩
end Go.Proofs.YtgfkalhpefjenaaDoor.proofLong
