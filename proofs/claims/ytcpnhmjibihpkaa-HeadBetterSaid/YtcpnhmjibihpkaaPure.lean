/- Plain laws: sums, trees, no program in sight. -/
import Derived.Below
namespace Go.Proofs.Ytcpnhmjibihpkaa

/-- one byte into a sum -/
def sumStep (n : Int) (c : UInt8) : Int := (n * 131 + (c.toNat : Int) + 1) % 2147483647
def sumFrom (n : Int) (l : List UInt8) : Int := l.foldl sumStep n
def sumL (l : List UInt8) : Int := sumFrom 5381 l
theorem sumStep_bd (n : Int) (c : UInt8) : 0 ≤ sumStep n c ∧ sumStep n c < 2147483647 := by
  unfold sumStep; omega
theorem sumFrom_snoc (n : Int) (l : List UInt8) (c : UInt8) : sumFrom n (l ++ [c]) = sumStep (sumFrom n l) c := by
  simp [sumFrom]
theorem sumFrom_append (n : Int) (l m : List UInt8) : sumFrom n (l ++ m) = sumFrom (sumFrom n l) m := by
  simp [sumFrom]
theorem sumFrom_bd (l : List UInt8) : ∀ n : Int, 0 ≤ n → n < 2147483647 → 0 ≤ sumFrom n l ∧ sumFrom n l < 2147483647 := by
  induction l with
  | nil => intro n h0 h1; exact ⟨h0, h1⟩
  | cons c l ih => intro n _ _; exact ih _ (sumStep_bd n c).1 (sumStep_bd n c).2
theorem sumL_bd (l : List UInt8) : 0 ≤ sumL l ∧ sumL l < 2147483647 := sumFrom_bd l 5381 (by omega) (by omega)
theorem sumL_snoc (l : List UInt8) (c : UInt8) : sumL (l ++ [c]) = sumStep (sumL l) c := sumFrom_snoc _ _ _
theorem take_snoc (l : List UInt8) (k : Nat) (h : k < l.length) : l.take (k + 1) = l.take k ++ [l[k]] := by
  rw [List.take_succ_eq_append_getElem h]
theorem sumL_take (l : List UInt8) (k : Nat) (h : k < l.length) : sumL (l.take (k + 1)) = sumStep (sumL (l.take k)) l[k] := by
  rw [take_snoc l k h, sumL_snoc]
end Go.Proofs.Ytcpnhmjibihpkaa
