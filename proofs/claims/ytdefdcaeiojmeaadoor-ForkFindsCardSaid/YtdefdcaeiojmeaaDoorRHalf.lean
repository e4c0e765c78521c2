import Derived.Test.YtdefdcaeiojmeaaDoorPCheck
namespace Go.Proofs.YtdefdcaeiojmeaaDoor
open Go.RowKit Go.WideShapes
set_option linter.unusedVariables false

theorem half_done {n q : Nat} (h1 : 1 ≤ n) (hn : n ≤ 4096) (hq : ∃ j, q = 2 ^ j) (h : q < n ∨ q = 1) (h' : n ≤ 2 * q) : half n = q := by
  obtain ⟨j, rfl⟩ := hq
  by_cases h2 : 2 ≤ n
  · have : 2 ^ j < n := by
      rcases h with h | h
      · exact h
      · omega
    exact half_eq h2 hn this (by rw [Nat.pow_succ]; omega)
  · obtain rfl : n = 1 := by omega
    have e1 : half 1 = 1 := by decide
    rw [e1]
    rcases h with h | h
    · have := Nat.one_le_two_pow (n := j); omega
    · exact h.symm

theorem RHalf_any (n : Nat) (w : World) (h1 : 1 ≤ n) (hn : n ≤ 4096) :
    Calls Tryd.prog 63 #[.int .i64 n] w fun e w' => e = .returned (.int .i64 (half n : Nat)) ∧ w = w' := by
  go_enter Tryd.func63, Tryd.ntmps63
  go_wp2_with fail
  go_loop [3] (fun a => ∃ q : Nat, a = .int .i64 q ∧ Hid (∃ j, q = 2 ^ j) ∧ (q < n ∨ q = 1) ∧ 1 ≤ q) (fun a => n - (intOf a).toNat)
  case atStart => exact ⟨1, rfl, ⟨0, rfl⟩, .inr rfl, Nat.le_refl _⟩
  case round =>
    obtain ⟨q, rfl, HJ, hq, hq1⟩ := hrel
    by_cases hc : 2 * q < n
    · go_wp2_with fail
      go_round
      case rel => exact ⟨2 * q, by go_num, (by obtain ⟨j, hj⟩ := HJ.out; exact ⟨j + 1, by rw [hj, Nat.pow_succ]; omega⟩), .inl hc, by omega⟩
      case measure => simp [intOf]; omega
    · have HH := Lib.hid (half_done h1 hn HJ.out hq (by omega))
      go_wp2_with fail
      go_ret
      exact ⟨ret_int (by rw [HH.out]), rfl⟩

end Go.Proofs.YtdefdcaeiojmeaaDoor
