/- The proof of a leaf is one; plain. -/
import Derived.Test.YtmknpehjncpekaaDoorTot
namespace Go.Proofs.YtmknpehjncpekaaDoor
set_option linter.unusedVariables false

theorem pcheck_way {xs : List Int} {n i : Nat} {z : Int} (hk : leafsOk xs) (hl : xs.length = n) (hz : xs[i]? = some z) : pcheck (ofL xs) (n : Int) (i : Int) z (wayL xs i) = 0 := by
  have hi : i < xs.length := (List.getElem?_eq_some_iff.1 hz).1
  have hn := hk.1
  refine pcheck_ok ⟨by omega, by omega, by omega⟩ ⟨vld_ofL hk.2 (by omega), allV_get hk.2 hz, allV_way xs.length xs i (Nat.le_refl _) (by omega) hk.2⟩ ?_ ?_
  · rw [Int.toNat_natCast, Int.toNat_natCast, wayL_len xs.length xs i (Nat.le_refl _) (by omega), hl]
  · rw [Int.toNat_natCast, Int.toNat_natCast, ← hl]
    exact up_way xs.length xs i z (Nat.le_refl _) (by omega) hz
theorem pmV_way {xs : List Int} {n i : Nat} (hk : leafsOk xs) (hl : xs.length = n) (hi : i < n) : pmV xs (i : Int) (n : Int) = wayL xs i ∧ pmK xs (i : Int) (n : Int) = 0 := by
  have h := pmK_ok (xs := xs) (i := (i : Int)) (m := (n : Int)) hk ⟨by omega, by omega, by omega⟩
  refine ⟨?_, h⟩
  unfold pmV
  rw [if_pos h, Int.toNat_natCast, Int.toNat_natCast, List.take_of_length_le (by omega)]
theorem way_len_le {xs : List Int} {i : Nat} (hn : xs.length ≤ 4096) : (wayL xs i).length ≤ 4096 := by
  rw [wayL_len xs.length xs i (Nat.le_refl _) hn]
  by_cases h0 : 1 ≤ xs.length
  · have := stepsN_lt xs.length i xs.length (Nat.le_refl _) hn h0
    omega
  · rw [stepsN_one i (by omega)]; omega
end Go.Proofs.YtmknpehjncpekaaDoor
