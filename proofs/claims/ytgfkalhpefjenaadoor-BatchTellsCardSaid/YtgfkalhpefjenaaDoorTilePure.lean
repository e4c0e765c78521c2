/- Tiles: plain. -/
import Derived.Test.YtgfkalhpefjenaaDoorPure
import Derived.Test.YtgfkalhpefjenaaDoorOpen
namespace Go.Proofs.YtgfkalhpefjenaaDoor
set_option linter.unusedVariables false

def tileAt (n k i : Nat) : Tl := ⟨(k : Int), (i : Int), min 4 ((n : Int) - (i : Int) * 4)⟩
def tilesAt (n k : Nat) : List Tl := (List.range ((n + 3) / 4)).map (tileAt n k)
def allT (s : Nat) : Nat → List Tl
  | 0 => []
  | k + 1 => allT s k ++ tilesAt (s / 4 ^ k) k
theorem tilesAt_len (n k : Nat) : (tilesAt n k).length = (n + 3) / 4 := by simp [tilesAt]
theorem tilesAt_take (n k i : Nat) (h : 4 * i < n) : (tilesAt n k).take (i + 1) = (tilesAt n k).take i ++ [tileAt n k i] := by
  have hl : i < (tilesAt n k).length := by rw [tilesAt_len]; omega
  rw [List.take_succ_eq_append_getElem hl]
  congr 2
  simp [tilesAt]
theorem tilesAt_all (n k i : Nat) (h : n ≤ 4 * i) : (tilesAt n k).take i = tilesAt n k := List.take_of_length_le (by rw [tilesAt_len]; omega)
theorem div4 (s k : Nat) : s / 4 ^ k / 4 = s / 4 ^ (k + 1) := by rw [Nat.div_div_eq_div_mul, Nat.pow_succ]
theorem div4_le (s k : Nat) : s / 4 ^ k ≤ s := Nat.div_le_self _ _
theorem allT_len (s : Nat) (hs : s ≤ 200) : ∀ k, (allT s k).length ≤ 51 * k
  | 0 => by simp [allT]
  | k + 1 => by
    have := allT_len s hs k
    have := div4_le s k
    rw [allT, List.length_append, tilesAt_len]
    omega

/-- a sum of a level -/
def sumAt (xs : List Int) (k p : Nat) : Int := ofL ((xs.take (p * 4 ^ k + 4 ^ k)).drop (p * 4 ^ k))
/-- the sums of a tile -/
def sumsT (xs : List Int) (k i m : Nat) : List Int := (List.range m).map fun j => sumAt xs k (i * 4 + j)
theorem sumsT_len (xs : List Int) (k i m : Nat) : (sumsT xs k i m).length = m := by simp [sumsT]
theorem sumsT_snoc (xs : List Int) (k i m : Nat) : sumsT xs k i (m + 1) = sumsT xs k i m ++ [sumAt xs k (i * 4 + m)] := by
  simp [sumsT, List.range_succ]
theorem fits {n k i m : Nat} (h : i * 4 + m ≤ n / 4 ^ k) {j : Nat} (hj : j < m) : (i * 4 + j) * 4 ^ k + 4 ^ k ≤ n := by
  have h1 : (i * 4 + j + 1) * 4 ^ k ≤ n / 4 ^ k * 4 ^ k := Nat.mul_le_mul_right _ (by omega)
  have h2 : n / 4 ^ k * 4 ^ k ≤ n := Nat.div_mul_le_self _ _
  rw [Nat.add_mul (i * 4 + j) 1, Nat.one_mul] at h1
  omega
theorem pow4_le {k : Nat} (h : k ≤ 3) : 4 ^ k ≤ 64 := by
  have := Nat.pow_le_pow_right (n := 4) (by omega) h
  omega
end Go.Proofs.YtgfkalhpefjenaaDoor
