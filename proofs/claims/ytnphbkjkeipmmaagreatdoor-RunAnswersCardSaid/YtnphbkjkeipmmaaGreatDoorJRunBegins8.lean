/- Tiles: plain. -/
import Derived.Test.YtnphbkjkeipmmaaGreatDoorJRunBegins0
import Derived.Test.YtnphbkjkeipmmaaGreatDoorJRunBegins7
import Derived.Lib.SlicesS
import Derived.Test.YtnphbkjkeipmmaaGreatDoorRows
import Derived.Test.YtnphbkjkeipmmaaGreatDoorJRunBegins4
namespace Go.Proofs.YtnphbkjkeipmmaaGreatDoor
set_option linter.unusedVariables false

def tileAt (n k i : Nat) : Tl := ⟨(k : Int), (i : Int), min 4 ((n : Int) - (i : Int) * 4)⟩
def tilesAt (n k : Nat) : List Tl := (List.range ((n + 3) / 4)).map (tileAt n k)
def allT (s : Nat) : Nat → List Tl
  | 0 => []
  | k + 1 => allT s k ++ tilesAt (s / 4 ^ k) k
theorem tilesAt_len (n k : Nat) : (tilesAt n k).length = (n + 3) / 4 := by simp [tilesAt]
theorem tilesAt_take (n k i : Nat) (h : 4 * i < n) : (tilesAt n k).take (i + 1) = (tilesAt n k).take i ++ [tileAt n k i] := by
  have hl : i < (tilesAt n k).length := by rw [tilesAt_len]; omega
  rw [List.take_succ_eq_append_getElem hl]
  congr 2
  simp [tilesAt]
theorem tilesAt_all (n k i : Nat) (h : n ≤ 4 * i) : (tilesAt n k).take i = tilesAt n k := List.take_of_length_le (by rw [tilesAt_len]; omega)
theorem div4 (s k : Nat) : s / 4 ^ k / 4 = s / 4 ^ (k + 1) := by rw [Nat.div_div_eq_div_mul, Nat.pow_succ]
theorem div4_le (s k : Nat) : s / 4 ^ k ≤ s := Nat.div_le_self _ _
theorem allT_len (s : Nat) (hs : s ≤ 200) : ∀ k, (allT s k).length ≤ 51 * k
  | 0 => by simp [allT]
  | k + 1 => by
    have := allT_len s hs k
    have := div4_le s k
    rw [allT, List.length_append, tilesAt_len]
    omega

/-- a sum of a level -/
def sumAt (xs : List Int) (k p : Nat) : Int := ofL ((xs.take (p * 4 ^ k + 4 ^ k)).drop (p * 4 ^ k))
/-- the sums of a tile -/
def sumsT (xs : List Int) (k i m : Nat) : List Int := (List.range m).map fun j => sumAt xs k (i * 4 + j)
theorem sumsT_len (xs : List Int) (k i m : Nat) : (sumsT xs k i m).length = m := by simp [sumsT]
theorem sumsT_snoc (xs : List Int) (k i m : Nat) : sumsT xs k i (m + 1) = sumsT xs k i m ++ [sumAt xs k (i * 4 + m)] := by
  simp [sumsT, List.range_succ]
theorem fits {n k i m : Nat} (h : i * 4 + m ≤ n / 4 ^ k) {j : Nat} (hj : j < m) : (i * 4 + j) * 4 ^ k + 4 ^ k ≤ n := by
  have h1 : (i * 4 + j + 1) * 4 ^ k ≤ n / 4 ^ k * 4 ^ k := Nat.mul_le_mul_right _ (by omega)
  have h2 : n / 4 ^ k * 4 ^ k ≤ n := Nat.div_mul_le_self _ _
  rw [Nat.add_mul (i * 4 + j) 1, Nat.one_mul] at h1
  omega
theorem pow4_le {k : Nat} (h : k ≤ 3) : 4 ^ k ≤ 64 := by
  have := Nat.pow_le_pow_right (n := 4) (by omega) h
  omega
end Go.Proofs.YtnphbkjkeipmmaaGreatDoor

/- The root by tiles: plain. -/
namespace Go.Proofs.YtnphbkjkeipmmaaGreatDoor
set_option linter.unusedVariables false

/-- some leafs of all -/
def seg (xs : List Int) (f s : Nat) : List Int := (xs.take (f + s)).drop f
theorem seg_len {xs : List Int} {f s : Nat} (h : f + s ≤ xs.length) : (seg xs f s).length = s := by
  unfold seg; rw [List.length_drop, List.length_take]; omega
theorem seg_take (xs : List Int) (f : Nat) {s k : Nat} (h : k ≤ s) : (seg xs f s).take k = seg xs f k := by
  unfold seg
  rw [List.take_drop, List.take_take, Nat.min_eq_left (by omega)]
theorem seg_drop (xs : List Int) (f : Nat) {s k : Nat} (h : k ≤ s) : (seg xs f s).drop k = seg xs (f + k) (s - k) := by
  unfold seg
  rw [List.drop_drop, show f + k + (s - k) = f + s by omega]
theorem seg_all (xs : List Int) : seg xs 0 xs.length = xs := by unfold seg; simp
theorem seg_split {xs : List Int} {f s : Nat} (h : f + s ≤ xs.length) (h2 : 2 ≤ s) (hs : s ≤ 4096) : ofL (seg xs f s) = nodeL (ofL (seg xs f (half s))) (ofL (seg xs (f + half s) (s - half s))) := by
  have hl := seg_len h
  have hh := half_lt h2 hs
  rw [ofL_node (by omega) (by omega), hl, seg_take _ _ (by omega), seg_drop _ _ (by omega)]
theorem sumAt_seg (xs : List Int) (k p : Nat) : sumAt xs k p = ofL (seg xs (p * 4 ^ k) (4 ^ k)) := rfl
theorem allV_seg {xs : List Int} (h : allV xs = true) (f s : Nat) : allV (seg xs f s) = true := allV_drop (allV_take h _) _

/-- the sums that some tiles have of a level -/
def accT (xs : List Int) (k : Nat) (ts : List Tl) : List Int := ts.flatMap fun t => if t.level = (k : Int) then sumsT xs k t.index.toNat t.wide.toNat else []
theorem accT_nil (xs : List Int) (k : Nat) : accT xs k [] = [] := rfl
theorem accT_append (xs : List Int) (k : Nat) (a b : List Tl) : accT xs k (a ++ b) = accT xs k a ++ accT xs k b := by simp [accT]
theorem accT_same (xs : List Int) (k i m : Nat) : accT xs k [⟨(k : Int), (i : Int), (m : Int)⟩] = sumsT xs k i m := by simp [accT]
theorem accT_other (xs : List Int) {k k' : Nat} (i m : Nat) (h : k' ≠ k) : accT xs k' [⟨(k : Int), (i : Int), (m : Int)⟩] = [] := by
  have : ¬ ((k : Int) = (k' : Int)) := by omega
  simp [accT, this]
/-- the sums of a level -/
def rowT (xs : List Int) (q k : Nat) : List Int := (List.range q).map (sumAt xs k)
theorem rowT_len (xs : List Int) (q k : Nat) : (rowT xs q k).length = q := by simp [rowT]
theorem rowT_get (xs : List Int) {q k p : Nat} (h : p < q) : (rowT xs q k)[p]? = some (sumAt xs k p) := by simp [rowT, h]
theorem rowT_add (xs : List Int) (k i : Nat) : ∀ m, rowT xs (i * 4 + m) k = rowT xs (i * 4) k ++ sumsT xs k i m
  | 0 => by simp [rowT, sumsT]
  | m + 1 => by
    rw [sumsT_snoc, ← List.append_assoc, ← rowT_add xs k i m]
    unfold rowT
    rw [← Nat.add_assoc, List.range_succ, List.map_append]
    rfl
theorem tileAt_nat (q k i : Nat) (h : 4 * i < q) : tileAt q k i = ⟨(k : Int), (i : Int), ((min 4 (q - 4 * i) : Nat) : Int)⟩ := by
  unfold tileAt
  congr 1
  omega
theorem accT_tiles (xs : List Int) (q k : Nat) : ∀ j, j ≤ (q + 3) / 4 → accT xs k ((tilesAt q k).take j) = rowT xs (min (j * 4) q) k
  | 0, _ => by simp [accT, rowT]
  | j + 1, h => by
    have hj : 4 * j < q := by omega
    rw [tilesAt_take q k j hj, accT_append, accT_tiles xs q k j (by omega), tileAt_nat q k j hj, accT_same, Nat.min_eq_left (by omega), ← rowT_add]
    congr 1
    omega
theorem accT_none (xs : List Int) (q : Nat) {k k' : Nat} (h : k' ≠ k) : ∀ j, accT xs k' ((tilesAt q k).take j) = []
  | 0 => by simp [accT]
  | j + 1 => by
    by_cases hj : 4 * j < q
    · rw [tilesAt_take q k j hj, accT_append, accT_none xs q h j, tileAt_nat q k j hj, accT_other _ _ _ h]; rfl
    · rw [tilesAt_all q k (j + 1) (by omega), ← tilesAt_all q k j (by omega)]
      exact accT_none xs q h j
theorem accT_tiles_all (xs : List Int) (q k : Nat) : accT xs k (tilesAt q k) = rowT xs q k := by
  have := accT_tiles xs q k ((q + 3) / 4) (Nat.le_refl _)
  rwa [tilesAt_all q k _ (by omega), Nat.min_eq_right (by omega)] at this
theorem accT_tiles_other (xs : List Int) (q : Nat) {k k' : Nat} (h : k' ≠ k) : accT xs k' (tilesAt q k) = [] := by
  have := accT_none xs q h ((q + 3) / 4)
  rwa [tilesAt_all q k _ (by omega)] at this
theorem accT_all (xs : List Int) (n k : Nat) : ∀ K, accT xs k (allT n K) = if k < K then rowT xs (n / 4 ^ k) k else []
  | 0 => by simp [allT, accT]
  | K + 1 => by
    rw [allT, accT_append, accT_all xs n k K]
    by_cases hk : k = K
    · subst hk
      rw [accT_tiles_all, if_neg (Nat.lt_irrefl _), if_pos (Nat.lt_succ_self _)]; rfl
    · rw [accT_tiles_other _ _ hk, List.append_nil]
      by_cases h : k < K
      · rw [if_pos h, if_pos (by omega)]
      · rw [if_neg h, if_neg (by omega)]
theorem accT_bound (xs : List Int) (n k : Nat) (hn : n ≤ 200) (j : Nat) : (accT xs k ((allT n 4).take j)).length ≤ 200 := by
  have h : (accT xs k ((allT n 4).take j)).length ≤ (accT xs k (allT n 4)).length := by
    have := congrArg (fun l => (accT xs k l).length) (List.take_append_drop j (allT n 4))
    simp only [accT_append, List.length_append] at this
    omega
  rw [accT_all] at h
  by_cases hk : k < 4
  · rw [if_pos hk, rowT_len] at h
    have := div4_le n k
    omega
  · rw [if_neg hk, List.length_nil] at h
    omega
end Go.Proofs.YtnphbkjkeipmmaaGreatDoor

/- Peaks: plain. Parts lie with the smallest one first. -/
namespace Go.Proofs.YtnphbkjkeipmmaaGreatDoor
set_option linter.unusedVariables false

theorem seg_append {xs : List Int} (ys : List Int) {f s : Nat} (h : f + s ≤ xs.length) : seg (xs ++ ys) f s = seg xs f s := by
  unfold seg; rw [List.take_append_of_le_length h]
theorem half_two (j : Nat) (hj : 2 ^ (j + 1) ≤ 4096) : half (2 ^ (j + 1)) = 2 ^ j := by
  have h1 : 1 ≤ 2 ^ j := Nat.one_le_two_pow
  exact half_eq (by rw [Nat.pow_succ]; omega) hj (by rw [Nat.pow_succ]; omega) (Nat.le_refl _)
/-- two parts that lie side by side, the left one full -/
theorem seg_two {xs : List Int} {f j r : Nat} (h : f + (2 ^ j + r) ≤ xs.length) (hl : xs.length ≤ 4096) (hr : 1 ≤ r) (hr2 : r ≤ 2 ^ j) : nodeL (ofL (seg xs f (2 ^ j))) (ofL (seg xs (f + 2 ^ j) r)) = ofL (seg xs f (2 ^ j + r)) := by
  have h1 : 1 ≤ 2 ^ j := Nat.one_le_two_pow
  have hh : half (2 ^ j + r) = 2 ^ j := half_eq (by omega) (by omega) (by omega) (by rw [Nat.pow_succ]; omega)
  rw [seg_split h (by omega) (by omega), hh, Nat.add_sub_cancel_left]

def partsF (xs : List Int) (j m : Nat) : List Int :=
  if h : m = 0 then [] else if m % 2 = 1 then ofL (seg xs ((m - 1) * 2 ^ j) (2 ^ j)) :: partsF xs (j + 1) (m / 2) else partsF xs (j + 1) (m / 2)
termination_by m
decreasing_by all_goals omega
theorem partsF_zero (xs : List Int) (j : Nat) : partsF xs j 0 = [] := by rw [partsF, dif_pos rfl]
theorem partsF_odd (xs : List Int) (j : Nat) {m : Nat} (h : m % 2 = 1) : partsF xs j m = ofL (seg xs ((m / 2) * 2 ^ (j + 1)) (2 ^ j)) :: partsF xs (j + 1) (m / 2) := by
  rw [partsF, dif_neg (by omega), if_pos h]
  congr 3
  rw [show m - 1 = m / 2 * 2 by omega, Nat.pow_succ, Nat.mul_comm (2 ^ j) 2, Nat.mul_assoc]
theorem partsF_even (xs : List Int) (j : Nat) {m : Nat} (h : m % 2 = 0) : partsF xs j m = partsF xs (j + 1) (m / 2) := by
  by_cases h0 : m = 0
  · subst h0; rw [partsF_zero, partsF_zero]
  · rw [partsF, dif_neg h0, if_neg (by omega)]
theorem partsF_pow (xs : List Int) (k : Nat) : ∀ j i, partsF xs i (k * 2 ^ j) = partsF xs (i + j) k
  | 0, i => by rw [Nat.pow_zero, Nat.mul_one]; rfl
  | j + 1, i => by
    have h2 : k * 2 ^ (j + 1) = k * 2 ^ j * 2 := by rw [Nat.pow_succ, Nat.mul_assoc]
    rw [partsF_even xs i (by omega), h2, Nat.mul_div_cancel _ (by omega), partsF_pow xs k j (i + 1)]
    congr 1
    omega
theorem partsF_append (xs ys : List Int) : ∀ (M : Nat) (j m : Nat), m ≤ M → m * 2 ^ j ≤ xs.length → partsF (xs ++ ys) j m = partsF xs j m
  | 0, j, m, h, _ => by
    obtain rfl : m = 0 := by omega
    rw [partsF_zero, partsF_zero]
  | M + 1, j, m, h, hl => by
    by_cases h0 : m = 0
    · subst h0; rw [partsF_zero, partsF_zero]
    · have hp : m / 2 * 2 ^ (j + 1) = m / 2 * 2 * 2 ^ j := by rw [Nat.pow_succ, Nat.mul_comm (2 ^ j) 2, Nat.mul_assoc]
      have h1 : 1 ≤ 2 ^ j := Nat.one_le_two_pow
      rcases Nat.mod_two_eq_zero_or_one m with h2 | h2
      · have hm : m / 2 * 2 = m := by omega
        rw [hm] at hp
        rw [partsF_even _ _ h2, partsF_even _ _ h2, partsF_append xs ys M (j + 1) (m / 2) (by omega) (by omega)]
      · have hm : m / 2 * 2 + 1 = m := by omega
        have hq : m * 2 ^ j = m / 2 * 2 * 2 ^ j + 2 ^ j := by rw [← hm, Nat.add_mul, Nat.one_mul, hm]
        rw [partsF_odd _ _ h2, partsF_odd _ _ h2, partsF_append xs ys M (j + 1) (m / 2) (by omega) (by omega), seg_append _ (by omega)]
/-- one more leaf: a step -/
theorem partsF_step {xs : List Int} {j m : Nat} (h : m % 2 = 1) (hl : (m + 1) * 2 ^ j ≤ xs.length) (hx : xs.length ≤ 4096) :
    nodeL (ofL (seg xs ((m / 2) * 2 ^ (j + 1)) (2 ^ j))) (ofL (seg xs (m * 2 ^ j) (2 ^ j))) = ofL (seg xs ((m / 2) * 2 ^ (j + 1)) (2 ^ (j + 1))) ∧ (m / 2 + 1) * 2 ^ (j + 1) = (m + 1) * 2 ^ j := by
  have h1 : 1 ≤ 2 ^ j := Nat.one_le_two_pow
  have hp : m / 2 * 2 ^ (j + 1) = m / 2 * 2 * 2 ^ j := by rw [Nat.pow_succ, Nat.mul_comm (2 ^ j) 2, Nat.mul_assoc]
  have hm : m / 2 * 2 + 1 = m := by omega
  have hq : m * 2 ^ j = m / 2 * 2 * 2 ^ j + 2 ^ j := by rw [← hm, Nat.add_mul, Nat.one_mul, hm]
  have hq2 : (m + 1) * 2 ^ j = m * 2 ^ j + 2 ^ j := by rw [Nat.add_mul, Nat.one_mul]
  have hs := seg_two (xs := xs) (f := m / 2 * 2 ^ (j + 1)) (j := j) (r := 2 ^ j) (by omega) hx h1 (Nat.le_refl _)
  rw [hp, ← hq, show 2 ^ j + 2 ^ j = 2 ^ (j + 1) by rw [Nat.pow_succ]; omega] at hs
  refine ⟨by rw [hp]; exact hs, ?_⟩
  rw [Nat.add_mul, hp, Nat.pow_succ]
  omega
/-- the end -/
theorem partsF_end {xs : List Int} {j m : Nat} (h : m % 2 = 0) : ofL (seg xs (m * 2 ^ j) (2 ^ j)) :: partsF xs j m = partsF xs 0 ((m + 1) * 2 ^ j) := by
  rw [partsF_pow, Nat.zero_add, partsF_odd xs j (m := m + 1) (by omega), partsF_even xs j h]
  have : (m + 1) / 2 = m / 2 := by omega
  have hp : m / 2 * 2 ^ (j + 1) = m * 2 ^ j := by
    rw [Nat.pow_succ, Nat.mul_comm (2 ^ j) 2, ← Nat.mul_assoc]
    congr 1
    omega
  rw [this, hp]

/-- the root of parts -/
def foldN : Int → List Int → Int
  | s, [] => s
  | s, p :: rs => foldN (nodeL p s) rs
def rootF : List Int → Int
  | [] => sumL []
  | p :: rs => foldN p rs
theorem foldN_parts {xs : List Int} (hx : xs.length ≤ 4096) : ∀ (M j m r : Nat), m ≤ M → 1 ≤ r → r ≤ 2 ^ j → m * 2 ^ j + r ≤ xs.length → foldN (ofL (seg xs (m * 2 ^ j) r)) (partsF xs j m) = ofL (seg xs 0 (m * 2 ^ j + r))
  | 0, j, m, r, h, h1, h2, h3 => by
    obtain rfl : m = 0 := by omega
    rw [partsF_zero, Nat.zero_mul, Nat.zero_add]; rfl
  | M + 1, j, m, r, h, h1, h2, h3 => by
    by_cases h0 : m = 0
    · subst h0; rw [partsF_zero, Nat.zero_mul, Nat.zero_add]; rfl
    · have hp : m / 2 * 2 ^ (j + 1) = m / 2 * 2 * 2 ^ j := by rw [Nat.pow_succ, Nat.mul_comm (2 ^ j) 2, Nat.mul_assoc]
      have hpp : 2 ^ (j + 1) = 2 * 2 ^ j := by rw [Nat.pow_succ, Nat.mul_comm]
      rcases Nat.mod_two_eq_zero_or_one m with he | he
      · have hm : m / 2 * 2 = m := by omega
        rw [hm] at hp
        rw [partsF_even _ _ he, ← hp, foldN_parts hx M (j + 1) (m / 2) r (by omega) h1 (by omega) (by omega)]
      · have hm : m / 2 * 2 + 1 = m := by omega
        have hq : m * 2 ^ j = m / 2 * 2 * 2 ^ j + 2 ^ j := by rw [← hm, Nat.add_mul, Nat.one_mul, hm]
        have hs := seg_two (xs := xs) (f := m / 2 * 2 ^ (j + 1)) (j := j) (r := r) (by omega) hx h1 h2
        rw [partsF_odd _ _ he]
        show foldN (nodeL (ofL (seg xs (m / 2 * 2 ^ (j + 1)) (2 ^ j))) (ofL (seg xs (m * 2 ^ j) r))) (partsF xs (j + 1) (m / 2)) = _
        rw [show m * 2 ^ j = m / 2 * 2 ^ (j + 1) + 2 ^ j by omega, hs, foldN_parts hx M (j + 1) (m / 2) (2 ^ j + r) (by omega) (by omega) (by omega) (by omega)]
        congr 2
        omega
theorem rootF_parts {xs : List Int} (hx : xs.length ≤ 4096) : ∀ (M j m : Nat), m ≤ M → 1 ≤ m → m * 2 ^ j ≤ xs.length → rootF (partsF xs j m) = ofL (seg xs 0 (m * 2 ^ j))
  | 0, j, m, h, h1, _ => by omega
  | M + 1, j, m, h, h1, hl => by
    have h2 : 1 ≤ 2 ^ j := Nat.one_le_two_pow
    have hp : m / 2 * 2 ^ (j + 1) = m / 2 * 2 * 2 ^ j := by rw [Nat.pow_succ, Nat.mul_comm (2 ^ j) 2, Nat.mul_assoc]
    have hpp : 2 ^ (j + 1) = 2 * 2 ^ j := by rw [Nat.pow_succ, Nat.mul_comm]
    rcases Nat.mod_two_eq_zero_or_one m with he | he
    · have hm : m / 2 * 2 = m := by omega
      rw [hm] at hp
      rw [partsF_even _ _ he, ← hp]
      exact rootF_parts hx M (j + 1) (m / 2) (by omega) (by omega) (by omega)
    · have hm : m / 2 * 2 + 1 = m := by omega
      have hq : m * 2 ^ j = m / 2 * 2 * 2 ^ j + 2 ^ j := by rw [← hm, Nat.add_mul, Nat.one_mul, hm]
      rw [partsF_odd _ _ he]
      show foldN _ _ = _
      rw [foldN_parts hx (m / 2) (j + 1) (m / 2) (2 ^ j) (Nat.le_refl _) h2 (by omega) (by omega)]
      congr 2
      omega
theorem rootF_all {xs : List Int} (hx : xs.length ≤ 4096) : rootF (partsF xs 0 xs.length) = ofL xs := by
  by_cases h : xs.length = 0
  · rw [h, partsF_zero]
    have : xs = [] := List.eq_nil_of_length_eq_zero h
    subst this
    rw [ofL_nil]; rfl
  · have := rootF_parts hx xs.length 0 xs.length (Nat.le_refl _) (by omega) (by rw [Nat.pow_zero]; omega)
    rw [Nat.pow_zero, Nat.mul_one, seg_all] at this
    exact this
theorem allV_parts {xs : List Int} (hv : allV xs = true) (hx : xs.length ≤ 4096) : ∀ (M j m : Nat), m ≤ M → m * 2 ^ j ≤ xs.length → allV (partsF xs j m) = true
  | 0, j, m, h, _ => by
    obtain rfl : m = 0 := by omega
    rw [partsF_zero]; rfl
  | M + 1, j, m, h, hl => by
    have hp : m / 2 * 2 ^ (j + 1) = m / 2 * 2 * 2 ^ j := by rw [Nat.pow_succ, Nat.mul_comm (2 ^ j) 2, Nat.mul_assoc]
    have h1 : 1 ≤ 2 ^ j := Nat.one_le_two_pow
    by_cases h0 : m = 0
    · subst h0; rw [partsF_zero]; rfl
    rcases Nat.mod_two_eq_zero_or_one m with he | he
    · have hm : m / 2 * 2 = m := by omega
      rw [hm] at hp
      rw [partsF_even _ _ he]
      exact allV_parts hv hx M (j + 1) (m / 2) (by omega) (by omega)
    · have hm : m / 2 * 2 + 1 = m := by omega
      have hq : m * 2 ^ j = m / 2 * 2 * 2 ^ j + 2 ^ j := by rw [← hm, Nat.add_mul, Nat.one_mul, hm]
      rw [partsF_odd _ _ he]
      have h1 := allV_parts hv hx M (j + 1) (m / 2) (by omega) (by omega)
      have h2 := vld_ofL (allV_seg hv (m / 2 * 2 ^ (j + 1)) (2 ^ j)) (by rw [seg_len (by omega)]; omega)
      simp [allV] at h1 ⊢
      exact ⟨h2, h1⟩
/-- how many -/
def ones (m : Nat) : Nat := if h : m = 0 then 0 else m % 2 + ones (m / 2)
termination_by m
decreasing_by omega
theorem partsF_len (xs : List Int) : ∀ (M j m : Nat), m ≤ M → (partsF xs j m).length = ones m
  | 0, j, m, h => by
    obtain rfl : m = 0 := by omega
    rw [partsF_zero, ones, dif_pos rfl]; rfl
  | M + 1, j, m, h => by
    by_cases h0 : m = 0
    · subst h0; rw [partsF_zero, ones, dif_pos rfl]; rfl
    · rw [ones, dif_neg h0, ← partsF_len xs M (j + 1) (m / 2) (by omega)]
      rcases Nat.mod_two_eq_zero_or_one m with he | he
      · rw [partsF_even _ _ he]; omega
      · rw [partsF_odd _ _ he, List.length_cons]; omega
theorem ones_le : ∀ (M m : Nat), m ≤ M → ones m ≤ m
  | 0, m, h => by
    obtain rfl : m = 0 := by omega
    simp [ones]
  | M + 1, m, h => by
    by_cases h0 : m = 0
    · subst h0; simp [ones]
    · rw [ones, dif_neg h0]
      have := ones_le M (m / 2) (by omega)
      omega
end Go.Proofs.YtnphbkjkeipmmaaGreatDoor

/- The references' small functions: which number is a sum, sums of bytes, how many bits, whether two lists are the same. -/
namespace Go.Proofs.YtnphbkjkeipmmaaGreatDoor
open Go.RowKit Go.WideShapes
set_option linter.unusedVariables false
attribute [local go_sem ↓] Go.wp_at_zero Go.wp_at_succ

theorem allV_snoc {xs : List Int} {k : Nat} {z : Int} (hz : xs[k]? = some z) : allV (xs.take (k + 1)) = (allV (xs.take k) && vld z) := by
  obtain ⟨h, rfl⟩ := List.getElem?_eq_some_iff.1 hz
  rw [List.take_succ_eq_append_getElem h, allV_append]; simp [allV]
theorem allV_no {xs : List Int} {k : Nat} {z : Int} (hz : xs[k]? = some z) (hv : vld z = false) : allV xs = false := by
  cases h : allV xs
  · rfl
  · rw [allV_get h hz] at hv; cases hv

set_option maxRecDepth 100000 in
theorem RValid_any (n : Int) (w : World) : Calls Tryz.prog 95 #[.int .i64 n] w fun e w' => e = .returned (.bool (vld n)) ∧ w = w' := by
  by_cases h0 : 0 ≤ n
  · by_cases h1 : n < 2147483647
    · have HV := Lib.hid (ret_bool (vld_mk ⟨h0, h1⟩).symm)
      go_enter Tryz.func95, Tryz.ntmps95
      go_wp2
      go_ret
      exact ⟨HV.out, rfl⟩
    · have HV := Lib.hid (ret_bool (vld_not (n := n) (by omega)).symm)
      go_enter Tryz.func95, Tryz.ntmps95
      go_wp2
      go_ret
      exact ⟨HV.out, rfl⟩
  · have HV := Lib.hid (ret_bool (vld_not (n := n) (by omega)).symm)
    have h0' : n < 0 := by omega
    clear h0
    go_enter Tryz.func95, Tryz.ntmps95
    go_wp2
    go_ret
    exact ⟨HV.out, rfl⟩

set_option maxRecDepth 100000 in
theorem RAll_any (A : Option Addr) (n c : Nat) (xs : List Int) (w : World) (hr : Rd w 1 A n c (xs.map (Value.int .i64))) (hm : c ≤ maxLen) :
    Calls Tryz.prog 96 #[.slice A n c] w fun e w' => e = .returned (.bool (allV xs)) ∧ w = w' := by
  have HX := Lib.hid hr.lenI
  have hl : n ≤ c := hr.2.1
  unfold maxLen at hm
  go_enter Tryz.func96, Tryz.ntmps96
  go_wp2_with fail
  go_loop [3] (fun i => ∃ k : Nat, k ≤ n ∧ i = .int .i64 k ∧ Hid (allV (xs.take k) = true)) (fun i => n - (intOf i).toNat)
  case atStart => exact ⟨0, Nat.zero_le _, rfl, rfl⟩
  case round =>
    obtain ⟨k, hk, rfl, HK⟩ := hrel
    by_cases hlt : k < n
    · obtain ⟨z, hz⟩ : ∃ z, xs[k]? = some z := ⟨_, List.getElem?_eq_getElem (by rw [HX.out]; exact hlt)⟩
      obtain ⟨ad, hA, hb, hcell⟩ := hr.getI hz
      subst hA
      cases hv : vld z
      · have HF : Hid (allV xs = false) := allV_no hz hv
        have HV := Lib.hid hv
        clear hz hv
        go_wp2_with fail
        refine (RValid_any z _).mono ?_
        rintro _ w' ⟨rfl, rfl⟩
        rw [HV.out]
        go_wp2_with fail
        go_ret
        exact ⟨ret_bool HF.out.symm, rfl⟩
      · have HZ := Lib.hid hz
        have HV := Lib.hid hv
        clear hz hv
        go_wp2_with fail
        refine (RValid_any z _).mono ?_
        rintro _ w' ⟨rfl, rfl⟩
        rw [HV.out]
        go_wp2_with fail
        go_round
        case rel => exact ⟨k + 1, by omega, by go_num, by show _ = _; rw [allV_snoc HZ.out, HK.out, HV.out]; rfl⟩
        case measure => simp [intOf]; omega
    · obtain rfl : k = n := by omega
      have HF : Hid (allV xs = true) := by
        show _ = _
        have := HK.out
        rwa [List.take_of_length_le (by rw [HX.out]; exact Nat.le_refl _)] at this
      go_wp2_with fail
      go_ret
      exact ⟨ret_bool HF.out.symm, rfl⟩

theorem sumL_takeS (s : ByteArray) (k : Nat) (h : k < s.size) : sumL (s.data.toList.take (k + 1)) = (sumL (s.data.toList.take k) * 131 + (s[k].toNat : Int) + 1) % 2147483647 := sumL_take s.data.toList k h
set_option maxRecDepth 100000 in
theorem RSum_any (s : ByteArray) (w : World) (hs : s.size ≤ maxLen) :
    Calls Tryz.prog 69 #[.string s] w fun e w' => e = .returned (.int .i64 (sumL s.data.toList)) ∧ w = w' := by
  unfold maxLen at hs
  go_enter Tryz.func69, Tryz.ntmps69
  go_wp2_with fail
  go_loop [3, 4] (fun n i => ∃ k : Nat, k ≤ s.size ∧ i = .int .i64 k ∧ n = .int .i64 (sumL (s.data.toList.take k))) (fun _ i => s.size - (intOf i).toNat)
  case atStart => exact ⟨0, Nat.zero_le _, rfl, rfl⟩
  case round =>
    obtain ⟨k, hk, rfl, rfl⟩ := hrel
    by_cases hlt : k < s.size
    · obtain ⟨hb0, hb1⟩ := sumL_bd (s.data.toList.take k)
      have HS := Lib.hid (sumL_takeS s k hlt)
      have hb2 : s[k].toNat < 256 := UInt8.toNat_lt _
      generalize sumL (s.data.toList.take k) = t at *
      go_wp2_with fail
      go_round
      case rel => exact ⟨k + 1, by omega, by go_num, by rw [HS.out]⟩
      case measure => simp [intOf]; omega
    · go_wp2_with fail
      go_ret
      exact ⟨ret_int (by rw [List.take_of_length_le (by simp; omega)]), rfl⟩

theorem ones_step {m : Nat} (h : 0 < m) : ones m = m % 2 + ones (m / 2) := by rw [ones, dif_neg (by omega)]
theorem ones_0 : ones 0 = 0 := by rw [ones, dif_pos rfl]
/-- are two lists the same? -/
def sameB {α : Type} [DecidableEq α] (a b : List α) : Bool := decide (a = b)
theorem sameB_yes {α : Type} [DecidableEq α] {a b : List α} (h : a = b) : sameB a b = true := decide_eq_true h
theorem sameB_no {α : Type} [DecidableEq α] {a b : List α} (h : a ≠ b) : sameB a b = false := decide_eq_false h
theorem sameB_self {α : Type} [DecidableEq α] (a : List α) : sameB a a = true := decide_eq_true rfl
theorem sameB_iff {α : Type} [DecidableEq α] {a b : List α} : sameB a b = true ↔ a = b := by unfold sameB; simp
theorem take_same {α : Type} {a b : List α} {k : Nat} {z : α} (h : a.take k = b.take k) (ha : a[k]? = some z) (hb : b[k]? = some z) : a.take (k + 1) = b.take (k + 1) := by
  obtain ⟨h1, e1⟩ := List.getElem?_eq_some_iff.1 ha
  obtain ⟨h2, e2⟩ := List.getElem?_eq_some_iff.1 hb
  rw [List.take_succ_eq_append_getElem h1, List.take_succ_eq_append_getElem h2, h, e1, e2]
theorem take_part {α : Type} {a b : List α} {k : Nat} {y z : α} (ha : a[k]? = some y) (hb : b[k]? = some z) (h : y ≠ z) : a ≠ b := by
  intro e; rw [e, hb] at ha; injection ha with ha; exact h ha.symm
theorem take_whole {α : Type} {a b : List α} {k : Nat} (h : a.take k = b.take k) (ha : a.length = k) (hb : b.length = k) : a = b := by
  rwa [List.take_of_length_le (by omega), List.take_of_length_le (by omega)] at h

end Go.Proofs.YtnphbkjkeipmmaaGreatDoor

/- Slices of ints that a call makes. -/
namespace Go.Proofs.YtnphbkjkeipmmaaGreatDoor
open Go.RowKit
set_option linter.unusedVariables false

theorem info_int' : (Tryz.prog.info? 3).map (fun i => (i.zero, i.size, i.bytes)) = some (some (.int .i64 0), 1, 8) := by kernel_rfl
def OwnN (w w' : World) (v : Value) (ys : List Int) : Prop := w'.ownsRow w.heap.size 3 1 v ys.length (ys.map (Value.int .i64))
theorem OwnN.mk {w w' : World} {v : Value} {n : Nat} {cs : List Value} {ys : List Int} (h : w'.ownsRow w.heap.size 3 1 v n cs) (hn : n = ys.length) (hc : cs = ys.map (Value.int .i64)) : OwnN w w' v ys := by
  subst hn; subst hc; exact h
theorem oneN (z : Int) : ∀ u ∈ [Value.int .i64 z], u.oneCell' = true := by intro u hu; simp at hu; subst hu; rfl
theorem OwnN.ext {w w' w2 : World} {v : Value} {ys : List Int} (h : OwnN w w' v ys) (e : Ext w' w2) : OwnN w w2 v ys := own_ext h e
theorem OwnN.lower {w w1 w' : World} {v : Value} {ys : List Int} (h : OwnN w1 w' v ys) (e : w.heap.size ≤ w1.heap.size) : OwnN w w' v ys := own_lower h e
theorem OwnN.nil (w w' : World) : OwnN w w' (.slice none 0 0) [] := own_nil _ _ _ _
theorem OwnN.rd {w w' : World} {v : Value} {ys : List Int} (h : OwnN w w' v ys) : ∃ A c, v = .slice A ys.length c ∧ c ≤ maxLen ∧ Rd w' 1 A ys.length c (ys.map (Value.int .i64)) := by
  obtain ⟨A, c, h1, h2, h3, _⟩ := own_rd h
  exact ⟨A, c, h1, h2, h3⟩
theorem OwnN.lit (w : World) (z : Int) : OwnN w (w.alloc (.cells #[.int .i64 z] 3)) (.slice (some ⟨w.heap.size, 0, .none⟩) 1 1) [z] :=
  World.ownsRow_lit w #[.int .i64 z] 1 (Nat.le_refl _) (by simp [maxLen]) rfl
end Go.Proofs.YtnphbkjkeipmmaaGreatDoor
