/- The proof that a log grew is one; plain. -/
import Derived.Test.YtdefdcaeiojmeaaDoorGMake
import Derived.Test.YtdefdcaeiojmeaaDoorLeafs
namespace Go.Proofs.YtdefdcaeiojmeaaDoor
set_option linter.unusedVariables false

/-- the proof that a log grew is one -/
theorem gcheck_grow {xs : List Int} {o m : Nat} (h : 1 ≤ o) (h2 : o ≤ m) (hm : m ≤ xs.length) (hk : leafsOk xs) : gcheck (ofL (xs.take o)) o (ofL (xs.take m)) m (growL (xs.take m) o true) = 0 := by
  have hx := hk.1
  have hlm : (xs.take m).length = m := by rw [List.length_take]; omega
  have hvm := allV_take hk.2 m
  have va : vld (ofL (xs.take o)) = true := vld_ofL (allV_take hk.2 o) (by rw [List.length_take]; omega)
  have vb : vld (ofL (xs.take m)) = true := vld_ofL hvm (by omega)
  have hlen := growL_len m (xs.take m) o true (by omega) h (by omega) (by omega)
  have hvp := growL_vld m (xs.take m) o true (by omega) h (by omega) (by omega) hvm
  have hg := groots_grow m (ofL (xs.take o)) (xs.take m) o true (by omega) h (by omega) (by omega) (fun _ => by rw [List.take_take, Nat.min_eq_left h2])
  rw [List.take_take, Nat.min_eq_left h2, hlm] at hg
  rw [hlm] at hlen
  unfold gcheck
  rw [if_neg (by omega), if_neg (by simp [va, vb, hvp]), Int.toNat_natCast, Int.toNat_natCast, if_neg (by omega), if_neg (by simp [hg])]
theorem leafsOk_take {xs : List Int} (hk : leafsOk xs) (n : Nat) : leafsOk (xs.take n) := ⟨by have := hk.1; rw [List.length_take]; omega, allV_take hk.2 n⟩
theorem vld_root {xs : List Int} (hk : leafsOk xs) : vld (ofL xs) = true := vld_ofL hk.2 (by have := hk.1; omega)
/-- the proof that goes with two sizes of a log -/
def goP (xs : List Int) (n m : Nat) : List Int := if 1 ≤ n ∧ n < m then growL (xs.take m) n true else []
end Go.Proofs.YtdefdcaeiojmeaaDoor
