import Derived.Test.YtmknpehjncpekaaDoorPCheck
namespace Go.Proofs.YtmknpehjncpekaaDoor
open Go.RowKit Go.WideShapes
set_option linter.unusedVariables false

theorem half_done {n q : Nat} (h1 : 1 ≤ n) (hn : n ≤ 4096) (hq : ∃ j, q = 2 ^ j) (h : q < n ∨ q = 1) (h' : n ≤ 2 * q) : half n = q := by
  obtain ⟨j, rfl⟩ := hq
  by_cases h2 : 2 ≤ n
  · have : 2 ^ j < n := by
      rcases h with h | h
      · exact h
      · omega
    exact half_eq h2 hn this (by rw [Nat.pow_succ]; omega)
  · obtain rfl : n = 1 := by omega
    have e1 : half 1 = 1 := by decide
    rw [e1]
    rcases h with h | h
    · have := Nat.one_le_two_pow (n := j); omega
    · exact h.symm

theorem RHalf_any (n : Nat) (w : World) (h1 : 1 ≤ n) (hn : n ≤ 4096) :
    Calls Tryd.prog 34 #[.int .i64 n] w fun e w' => e = .returned (.int .i64 (half n : Nat)) ∧ w = w' := by
  go_enter Tryd.func34, Tryd.ntmps34
  go_wp2_with fail
  go_loop [3] (fun a => ∃ q : Nat, a = .int .i64 q ∧ Hid (∃ j, q = 2 ^ j) ∧ (q < n ∨ q = 1) ∧ 1 ≤ q) (fun a => n - (intOf a).toNat)
  case atStart => exact ⟨1, rfl, ⟨0, rfl⟩, .inr rfl, Nat.le_refl _⟩
  case round =>
    obtain ⟨q, rfl, HJ, hq, hq1⟩ := hrel
    by_cases hc : 2 * q < n
    · go_wp2_with fail
      go_round
      case rel => exact ⟨2 * q, by go_num, (by obtain ⟨j, hj⟩ := HJ.out; exact ⟨j + 1, by rw [hj, Nat.pow_succ]; omega⟩), .inl hc, by omega⟩
      case measure => simp [intOf]; omega
    · have HH := Lib.hid (half_done h1 hn HJ.out hq (by omega))
      go_wp2_with fail
      go_ret
      exact ⟨ret_int (by rw [HH.out]), rfl⟩

set_option maxHeartbeats 1000000 in
theorem RSteps_any (N : Nat) : ∀ (i n : Nat) (w : World), n ≤ N → i < n → n ≤ 4096 →
    Calls Tryd.prog 11 #[.int .i64 i, .int .i64 n] w fun e w' => e = .returned (.int .i64 (stepsN i n : Nat)) ∧ w = w' := by
  induction N with
  | zero => intro i n w h h'; omega
  | succ N ih =>
    intro i n w hN hi hn
    have IH := Lib.hid ih
    clear ih
    by_cases h2 : 2 ≤ n
    · have hk := half_lt h2 hn
      have hk0 := half_pos n
      have hk' := half_le h2 hn
      have hs0 := stepsN_lt n i n (Nat.le_refl _) hn (by omega)
      by_cases hik : i < half n
      · have hs := stepsN_left h2 hn hik
        have hlt := stepsN_lt (half n) i (half n) (Nat.le_refl _) (by omega) (by omega)
        have HS := Lib.hid hs
        clear hs
        go_enter Tryd.func11, Tryd.ntmps11
        go_wp2_with fail
        refine (RHalf_any n _ (by omega) hn).mono ?_
        rintro e w' ⟨rfl, rfl⟩
        go_wp2_with fail
        refine (IH.out i (half n) _ (by omega) hik (by omega)).mono ?_
        rintro e w' ⟨rfl, rfl⟩
        go_wp2_with fail
        go_ret
        exact ⟨ret_int (by rw [HS.out]; omega), rfl⟩
      · have hs := stepsN_right h2 hn hik
        have hlt := stepsN_lt (n - half n) (i - half n) (n - half n) (Nat.le_refl _) (by omega) (by omega)
        have HS := Lib.hid hs
        clear hs
        have e1 : Hid ((i : Int) - (half n : Int) = ((i - half n : Nat) : Int)) := by show _ = _; omega
        have e2 : Hid ((n : Int) - (half n : Int) = ((n - half n : Nat) : Int)) := by show _ = _; omega
        go_enter Tryd.func11, Tryd.ntmps11
        go_wp2_with fail
        refine (RHalf_any n _ (by omega) hn).mono ?_
        rintro e w' ⟨rfl, rfl⟩
        go_wp2_with fail
        rw [e1.out, e2.out]
        refine (IH.out (i - half n) (n - half n) _ (by omega) (by omega) (by omega)).mono ?_
        rintro e w' ⟨rfl, rfl⟩
        go_wp2_with fail
        go_ret
        exact ⟨ret_int (by rw [HS.out]; omega), rfl⟩
    · obtain rfl : n = 1 := by omega
      have HS := Lib.hid (stepsN_one i (n := 1) (by omega))
      go_enter Tryd.func11, Tryd.ntmps11
      go_wp2_with fail
      go_ret
      exact ⟨ret_int (by rw [HS.out]; rfl), rfl⟩
end Go.Proofs.YtmknpehjncpekaaDoor
