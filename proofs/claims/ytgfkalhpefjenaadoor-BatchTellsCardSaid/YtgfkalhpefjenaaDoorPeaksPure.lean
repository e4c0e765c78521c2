/- Peaks: plain. Parts lie with the smallest one first. -/
import Derived.Test.YtgfkalhpefjenaaDoorRootPure
namespace Go.Proofs.YtgfkalhpefjenaaDoor
set_option linter.unusedVariables false

theorem seg_append {xs : List Int} (ys : List Int) {f s : Nat} (h : f + s ≤ xs.length) : seg (xs ++ ys) f s = seg xs f s := by
  unfold seg; rw [List.take_append_of_le_length h]
theorem half_two (j : Nat) (hj : 2 ^ (j + 1) ≤ 4096) : half (2 ^ (j + 1)) = 2 ^ j := by
  have h1 : 1 ≤ 2 ^ j := Nat.one_le_two_pow
  exact half_eq (by rw [Nat.pow_succ]; omega) hj (by rw [Nat.pow_succ]; omega) (Nat.le_refl _)
/-- two parts that lie side by side, the left one full -/
theorem seg_two {xs : List Int} {f j r : Nat} (h : f + (2 ^ j + r) ≤ xs.length) (hl : xs.length ≤ 4096) (hr : 1 ≤ r) (hr2 : r ≤ 2 ^ j) : nodeL (ofL (seg xs f (2 ^ j))) (ofL (seg xs (f + 2 ^ j) r)) = ofL (seg xs f (2 ^ j + r)) := by
  have h1 : 1 ≤ 2 ^ j := Nat.one_le_two_pow
  have hh : half (2 ^ j + r) = 2 ^ j := half_eq (by omega) (by omega) (by omega) (by rw [Nat.pow_succ]; omega)
  rw [seg_split h (by omega) (by omega), hh, Nat.add_sub_cancel_left]

def partsF (xs : List Int) (j m : Nat) : List Int :=
  if h : m = 0 then [] else if m % 2 = 1 then ofL (seg xs ((m - 1) * 2 ^ j) (2 ^ j)) :: partsF xs (j + 1) (m / 2) else partsF xs (j + 1) (m / 2)
termination_by m
decreasing_by all_goals omega
theorem partsF_zero (xs : List Int) (j : Nat) : partsF xs j 0 = [] := by rw [partsF, dif_pos rfl]
theorem partsF_odd (xs : List Int) (j : Nat) {m : Nat} (h : m % 2 = 1) : partsF xs j m = ofL (seg xs ((m / 2) * 2 ^ (j + 1)) (2 ^ j)) :: partsF xs (j + 1) (m / 2) := by
  rw [partsF, dif_neg (by omega), if_pos h]
  congr 3
  rw [show m - 1 = m / 2 * 2 by omega, Nat.pow_succ, Nat.mul_comm (2 ^ j) 2, Nat.mul_assoc]
theorem partsF_even (xs : List Int) (j : Nat) {m : Nat} (h : m % 2 = 0) : partsF xs j m = partsF xs (j + 1) (m / 2) := by
  by_cases h0 : m = 0
  · subst h0; rw [partsF_zero, partsF_zero]
  · rw [partsF, dif_neg h0, if_neg (by omega)]
theorem partsF_pow (xs : List Int) (k : Nat) : ∀ j i, partsF xs i (k * 2 ^ j) = partsF xs (i + j) k
  | 0, i => by rw [Nat.pow_zero, Nat.mul_one]; rfl
  | j + 1, i => by
    have h2 : k * 2 ^ (j + 1) = k * 2 ^ j * 2 := by rw [Nat.pow_succ, Nat.mul_assoc]
    rw [partsF_even xs i (by omega), h2, Nat.mul_div_cancel _ (by omega), partsF_pow xs k j (i + 1)]
    congr 1
    omega
theorem partsF_append (xs ys : List Int) : ∀ (M : Nat) (j m : Nat), m ≤ M → m * 2 ^ j ≤ xs.length → partsF (xs ++ ys) j m = partsF xs j m
  | 0, j, m, h, _ => by
    obtain rfl : m = 0 := by omega
    rw [partsF_zero, partsF_zero]
  | M + 1, j, m, h, hl => by
    by_cases h0 : m = 0
    · subst h0; rw [partsF_zero, partsF_zero]
    · have hp : m / 2 * 2 ^ (j + 1) = m / 2 * 2 * 2 ^ j := by rw [Nat.pow_succ, Nat.mul_comm (2 ^ j) 2, Nat.mul_assoc]
      have h1 : 1 ≤ 2 ^ j := Nat.one_le_two_pow
      rcases Nat.mod_two_eq_zero_or_one m with h2 | h2
      · have hm : m / 2 * 2 = m := by omega
        rw [hm] at hp
        rw [partsF_even _ _ h2, partsF_even _ _ h2, partsF_append xs ys M (j + 1) (m / 2) (by omega) (by omega)]
      · have hm : m / 2 * 2 + 1 = m := by omega
        have hq : m * 2 ^ j = m / 2 * 2 * 2 ^ j + 2 ^ j := by rw [← hm, Nat.add_mul, Nat.one_mul, hm]
        rw [partsF_odd _ _ h2, partsF_odd _ _ h2, partsF_append xs ys M (j + 1) (m / 2) (by omega) (by omega), seg_append _ (by omega)]
/-- one more leaf: a step -/
theorem partsF_step {xs : List Int} {j m : Nat} (h : m % 2 = 1) (hl : (m + 1) * 2 ^ j ≤ xs.length) (hx : xs.length ≤ 4096) :
    nodeL (ofL (seg xs ((m / 2) * 2 ^ (j + 1)) (2 ^ j))) (ofL (seg xs (m * 2 ^ j) (2 ^ j))) = ofL (seg xs ((m / 2) * 2 ^ (j + 1)) (2 ^ (j + 1))) ∧ (m / 2 + 1) * 2 ^ (j + 1) = (m + 1) * 2 ^ j := by
  have h1 : 1 ≤ 2 ^ j := Nat.one_le_two_pow
  have hp : m / 2 * 2 ^ (j + 1) = m / 2 * 2 * 2 ^ j := by rw [Nat.pow_succ, Nat.mul_comm (2 ^ j) 2, Nat.mul_assoc]
  have hm : m / 2 * 2 + 1 = m := by omega
  have hq : m * 2 ^ j = m / 2 * 2 * 2 ^ j + 2 ^ j := by rw [← hm, Nat.add_mul, Nat.one_mul, hm]
  have hq2 : (m + 1) * 2 ^ j = m * 2 ^ j + 2 ^ j := by rw [Nat.add_mul, Nat.one_mul]
  have hs := seg_two (xs := xs) (f := m / 2 * 2 ^ (j + 1)) (j := j) (r := 2 ^ j) (by omega) hx h1 (Nat.le_refl _)
  rw [hp, ← hq, show 2 ^ j + 2 ^ j = 2 ^ (j + 1) by rw [Nat.pow_succ]; omega] at hs
  refine ⟨by rw [hp]; exact hs, ?_⟩
  rw [Nat.add_mul, hp, Nat.pow_succ]
  omega
/-- the end -/
theorem partsF_end {xs : List Int} {j m : Nat} (h : m % 2 = 0) : ofL (seg xs (m * 2 ^ j) (2 ^ j)) :: partsF xs j m = partsF xs 0 ((m + 1) * 2 ^ j) := by
  rw [partsF_pow, Nat.zero_add, partsF_odd xs j (m := m + 1) (by omega), partsF_even xs j h]
  have : (m + 1) / 2 = m / 2 := by omega
  have hp : m / 2 * 2 ^ (j + 1) = m * 2 ^ j := by
    rw [Nat.pow_succ, Nat.mul_comm (2 ^ j) 2, ← Nat.mul_assoc]
    congr 1
    omega
  rw [this, hp]

/-- the root of parts -/
def foldN : Int → List Int → Int
  | s, [] => s
  | s, p :: rs => foldN (nodeL p s) rs
def rootF : List Int → Int
  | [] => sumL []
  | p :: rs => foldN p rs
theorem foldN_parts {xs : List Int} (hx : xs.length ≤ 4096) : ∀ (M j m r : Nat), m ≤ M → 1 ≤ r → r ≤ 2 ^ j → m * 2 ^ j + r ≤ xs.length → foldN (ofL (seg xs (m * 2 ^ j) r)) (partsF xs j m) = ofL (seg xs 0 (m * 2 ^ j + r))
  | 0, j, m, r, h, h1, h2, h3 => by
    obtain rfl : m = 0 := by omega
    rw [partsF_zero, Nat.zero_mul, Nat.zero_add]; rfl
  | M + 1, j, m, r, h, h1, h2, h3 => by
    by_cases h0 : m = 0
    · subst h0; rw [partsF_zero, Nat.zero_mul, Nat.zero_add]; rfl
    · have hp : m / 2 * 2 ^ (j + 1) = m / 2 * 2 * 2 ^ j := by rw [Nat.pow_succ, Nat.mul_comm (2 ^ j) 2, Nat.mul_assoc]
      have hpp : 2 ^ (j + 1) = 2 * 2 ^ j := by rw [Nat.pow_succ, Nat.mul_comm]
      rcases Nat.mod_two_eq_zero_or_one m with he | he
      · have hm : m / 2 * 2 = m := by omega
        rw [hm] at hp
        rw [partsF_even _ _ he, ← hp, foldN_parts hx M (j + 1) (m / 2) r (by omega) h1 (by omega) (by omega)]
      · have hm : m / 2 * 2 + 1 = m := by omega
        have hq : m * 2 ^ j = m / 2 * 2 * 2 ^ j + 2 ^ j := by rw [← hm, Nat.add_mul, Nat.one_mul, hm]
        have hs := seg_two (xs := xs) (f := m / 2 * 2 ^ (j + 1)) (j := j) (r := r) (by omega) hx h1 h2
        rw [partsF_odd _ _ he]
        show foldN (nodeL (ofL (seg xs (m / 2 * 2 ^ (j + 1)) (2 ^ j))) (ofL (seg xs (m * 2 ^ j) r))) (partsF xs (j + 1) (m / 2)) = _
        rw [show m * 2 ^ j = m / 2 * 2 ^ (j + 1) + 2 ^ j by omega, hs, foldN_parts hx M (j + 1) (m / 2) (2 ^ j + r) (by omega) (by omega) (by omega) (by omega)]
        congr 2
        omega
theorem rootF_parts {xs : List Int} (hx : xs.length ≤ 4096) : ∀ (M j m : Nat), m ≤ M → 1 ≤ m → m * 2 ^ j ≤ xs.length → rootF (partsF xs j m) = ofL (seg xs 0 (m * 2 ^ j))
  | 0, j, m, h, h1, _ => by omega
  | M + 1, j, m, h, h1, hl => by
    have h2 : 1 ≤ 2 ^ j := Nat.one_le_two_pow
    have hp : m / 2 * 2 ^ (j + 1) = m / 2 * 2 * 2 ^ j := by rw [Nat.pow_succ, Nat.mul_comm (2 ^ j) 2, Nat.mul_assoc]
    have hpp : 2 ^ (j + 1) = 2 * 2 ^ j := by rw [Nat.pow_succ, Nat.mul_comm]
    rcases Nat.mod_two_eq_zero_or_one m with he | he
    · have hm : m / 2 * 2 = m := by omega
      rw [hm] at hp
      rw [partsF_even _ _ he, ← hp]
      exact rootF_parts hx M (j + 1) (m / 2) (by omega) (by omega) (by omega)
    · have hm : m / 2 * 2 + 1 = m := by omega
      have hq : m * 2 ^ j = m / 2 * 2 * 2 ^ j + 2 ^ j := by rw [← hm, Nat.add_mul, Nat.one_mul, hm]
      rw [partsF_odd _ _ he]
      show foldN _ _ = _
      rw [foldN_parts hx (m / 2) (j + 1) (m / 2) (2 ^ j) (Nat.le_refl _) h2 (by omega) (by omega)]
      congr 2
      omega
theorem rootF_all {xs : List Int} (hx : xs.length ≤ 4096) : rootF (partsF xs 0 xs.length) = ofL xs := by
  by_cases h : xs.length = 0
  · rw [h, partsF_zero]
    have : xs = [] := List.eq_nil_of_length_eq_zero h
    subst this
    rw [ofL_nil]; rfl
  · have := rootF_parts hx xs.length 0 xs.length (Nat.le_refl _) (by omega) (by rw [Nat.pow_zero]; omega)
    rw [Nat.pow_zero, Nat.mul_one, seg_all] at this
    exact this
theorem allV_parts {xs : List Int} (hv : allV xs = true) (hx : xs.length ≤ 4096) : ∀ (M j m : Nat), m ≤ M → m * 2 ^ j ≤ xs.length → allV (partsF xs j m) = true
  | 0, j, m, h, _ => by
    obtain rfl : m = 0 := by omega
    rw [partsF_zero]; rfl
  | M + 1, j, m, h, hl => by
    have hp : m / 2 * 2 ^ (j + 1) = m / 2 * 2 * 2 ^ j := by rw [Nat.pow_succ, Nat.mul_comm (2 ^ j) 2, Nat.mul_assoc]
    have h1 : 1 ≤ 2 ^ j := Nat.one_le_two_pow
    by_cases h0 : m = 0
    · subst h0; rw [partsF_zero]; rfl
    rcases Nat.mod_two_eq_zero_or_one m with he | he
    · have hm : m / 2 * 2 = m := by omega
      rw [hm] at hp
      rw [partsF_even _ _ he]
      exact allV_parts hv hx M (j + 1) (m / 2) (by omega) (by omega)
    · have hm : m / 2 * 2 + 1 = m := by omega
      have hq : m * 2 ^ j = m / 2 * 2 * 2 ^ j + 2 ^ j := by rw [← hm, Nat.add_mul, Nat.one_mul, hm]
      rw [partsF_odd _ _ he]
      have h1 := allV_parts hv hx M (j + 1) (m / 2) (by omega) (by omega)
      have h2 := vld_ofL (allV_seg hv (m / 2 * 2 ^ (j + 1)) (2 ^ j)) (by rw [seg_len (by omega)]; omega)
      simp [allV] at h1 ⊢
      exact ⟨h2, h1⟩
/-- how many -/
def ones (m : Nat) : Nat := if h : m = 0 then 0 else m % 2 + ones (m / 2)
termination_by m
decreasing_by omega
theorem partsF_len (xs : List Int) : ∀ (M j m : Nat), m ≤ M → (partsF xs j m).length = ones m
  | 0, j, m, h => by
    obtain rfl : m = 0 := by omega
    rw [partsF_zero, ones, dif_pos rfl]; rfl
  | M + 1, j, m, h => by
    by_cases h0 : m = 0
    · subst h0; rw [partsF_zero, ones, dif_pos rfl]; rfl
    · rw [ones, dif_neg h0, ← partsF_len xs M (j + 1) (m / 2) (by omega)]
      rcases Nat.mod_two_eq_zero_or_one m with he | he
      · rw [partsF_even _ _ he]; omega
      · rw [partsF_odd _ _ he, List.length_cons]; omega
theorem ones_le : ∀ (M m : Nat), m ≤ M → ones m ≤ m
  | 0, m, h => by
    obtain rfl : m = 0 := by omega
    simp [ones]
  | M + 1, m, h => by
    by_cases h0 : m = 0
    · subst h0; simp [ones]
    · rw [ones, dif_neg h0]
      have := ones_le M (m / 2) (by omega)
      omega
end Go.Proofs.YtgfkalhpefjenaaDoor
