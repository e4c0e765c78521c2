/- The root by tiles: plain. -/
import Derived.Test.YtgfkalhpefjenaaDoorTilePure
namespace Go.Proofs.YtgfkalhpefjenaaDoor
set_option linter.unusedVariables false

/-- some leafs of all -/
def seg (xs : List Int) (f s : Nat) : List Int := (xs.take (f + s)).drop f
theorem seg_len {xs : List Int} {f s : Nat} (h : f + s ≤ xs.length) : (seg xs f s).length = s := by
  unfold seg; rw [List.length_drop, List.length_take]; omega
theorem seg_take (xs : List Int) (f : Nat) {s k : Nat} (h : k ≤ s) : (seg xs f s).take k = seg xs f k := by
  unfold seg
  rw [List.take_drop, List.take_take, Nat.min_eq_left (by omega)]
theorem seg_drop (xs : List Int) (f : Nat) {s k : Nat} (h : k ≤ s) : (seg xs f s).drop k = seg xs (f + k) (s - k) := by
  unfold seg
  rw [List.drop_drop, show f + k + (s - k) = f + s by omega]
theorem seg_all (xs : List Int) : seg xs 0 xs.length = xs := by unfold seg; simp
theorem seg_split {xs : List Int} {f s : Nat} (h : f + s ≤ xs.length) (h2 : 2 ≤ s) (hs : s ≤ 4096) : ofL (seg xs f s) = nodeL (ofL (seg xs f (half s))) (ofL (seg xs (f + half s) (s - half s))) := by
  have hl := seg_len h
  have hh := half_lt h2 hs
  rw [ofL_node (by omega) (by omega), hl, seg_take _ _ (by omega), seg_drop _ _ (by omega)]
theorem sumAt_seg (xs : List Int) (k p : Nat) : sumAt xs k p = ofL (seg xs (p * 4 ^ k) (4 ^ k)) := rfl
theorem allV_seg {xs : List Int} (h : allV xs = true) (f s : Nat) : allV (seg xs f s) = true := allV_drop (allV_take h _) _

/-- the sums that some tiles have of a level -/
def accT (xs : List Int) (k : Nat) (ts : List Tl) : List Int := ts.flatMap fun t => if t.level = (k : Int) then sumsT xs k t.index.toNat t.wide.toNat else []
theorem accT_nil (xs : List Int) (k : Nat) : accT xs k [] = [] := rfl
theorem accT_append (xs : List Int) (k : Nat) (a b : List Tl) : accT xs k (a ++ b) = accT xs k a ++ accT xs k b := by simp [accT]
theorem accT_same (xs : List Int) (k i m : Nat) : accT xs k [⟨(k : Int), (i : Int), (m : Int)⟩] = sumsT xs k i m := by simp [accT]
theorem accT_other (xs : List Int) {k k' : Nat} (i m : Nat) (h : k' ≠ k) : accT xs k' [⟨(k : Int), (i : Int), (m : Int)⟩] = [] := by
  have : ¬ ((k : Int) = (k' : Int)) := by omega
  simp [accT, this]
/-- the sums of a level -/
def rowT (xs : List Int) (q k : Nat) : List Int := (List.range q).map (sumAt xs k)
theorem rowT_len (xs : List Int) (q k : Nat) : (rowT xs q k).length = q := by simp [rowT]
theorem rowT_get (xs : List Int) {q k p : Nat} (h : p < q) : (rowT xs q k)[p]? = some (sumAt xs k p) := by simp [rowT, h]
theorem rowT_add (xs : List Int) (k i : Nat) : ∀ m, rowT xs (i * 4 + m) k = rowT xs (i * 4) k ++ sumsT xs k i m
  | 0 => by simp [rowT, sumsT]
  | m + 1 => by
    rw [sumsT_snoc, ← List.append_assoc, ← rowT_add xs k i m]
    unfold rowT
    rw [← Nat.add_assoc, List.range_succ, List.map_append]
    rfl
theorem tileAt_nat (q k i : Nat) (h : 4 * i < q) : tileAt q k i = ⟨(k : Int), (i : Int), ((min 4 (q - 4 * i) : Nat) : Int)⟩ := by
  unfold tileAt
  congr 1
  omega
theorem accT_tiles (xs : List Int) (q k : Nat) : ∀ j, j ≤ (q + 3) / 4 → accT xs k ((tilesAt q k).take j) = rowT xs (min (j * 4) q) k
  | 0, _ => by simp [accT, rowT]
  | j + 1, h => by
    have hj : 4 * j < q := by omega
    rw [tilesAt_take q k j hj, accT_append, accT_tiles xs q k j (by omega), tileAt_nat q k j hj, accT_same, Nat.min_eq_left (by omega), ← rowT_add]
    congr 1
    omega
theorem accT_none (xs : List Int) (q : Nat) {k k' : Nat} (h : k' ≠ k) : ∀ j, accT xs k' ((tilesAt q k).take j) = []
  | 0 => by simp [accT]
  | j + 1 => by
    by_cases hj : 4 * j < q
    · rw [tilesAt_take q k j hj, accT_append, accT_none xs q h j, tileAt_nat q k j hj, accT_other _ _ _ h]; rfl
    · rw [tilesAt_all q k (j + 1) (by omega), ← tilesAt_all q k j (by omega)]
      exact accT_none xs q h j
theorem accT_tiles_all (xs : List Int) (q k : Nat) : accT xs k (tilesAt q k) = rowT xs q k := by
  have := accT_tiles xs q k ((q + 3) / 4) (Nat.le_refl _)
  rwa [tilesAt_all q k _ (by omega), Nat.min_eq_right (by omega)] at this
theorem accT_tiles_other (xs : List Int) (q : Nat) {k k' : Nat} (h : k' ≠ k) : accT xs k' (tilesAt q k) = [] := by
  have := accT_none xs q h ((q + 3) / 4)
  rwa [tilesAt_all q k _ (by omega)] at this
theorem accT_all (xs : List Int) (n k : Nat) : ∀ K, accT xs k (allT n K) = if k < K then rowT xs (n / 4 ^ k) k else []
  | 0 => by simp [allT, accT]
  | K + 1 => by
    rw [allT, accT_append, accT_all xs n k K]
    by_cases hk : k = K
    · subst hk
      rw [accT_tiles_all, if_neg (Nat.lt_irrefl _), if_pos (Nat.lt_succ_self _)]; rfl
    · rw [accT_tiles_other _ _ hk, List.append_nil]
      by_cases h : k < K
      · rw [if_pos h, if_pos (by omega)]
      · rw [if_neg h, if_neg (by omega)]
theorem accT_bound (xs : List Int) (n k : Nat) (hn : n ≤ 200) (j : Nat) : (accT xs k ((allT n 4).take j)).length ≤ 200 := by
  have h : (accT xs k ((allT n 4).take j)).length ≤ (accT xs k (allT n 4)).length := by
    have := congrArg (fun l => (accT xs k l).length) (List.take_append_drop j (allT n 4))
    simp only [accT_append, List.length_append] at this
    omega
  rw [accT_all] at h
  by_cases hk : k < 4
  · rw [if_pos hk, rowT_len] at h
    have := div4_le n k
    omega
  · rw [if_neg hk, List.length_nil] at h
    omega
end Go.Proofs.YtgfkalhpefjenaaDoor
