/- Prune: the proofs that are made, learned. -/
import Derived.Test.YtcpnhmjibihpkaaPrune2
import Derived.Test.YtcpnhmjibihpkaaTot
namespace Go.Proofs.Ytcpnhmjibihpkaa
open Go.RowKit
set_option linter.unusedVariables false

theorem pcheck_way {xs : List Int} {n i : Nat} {z : Int} (hk : leafsOk xs) (hl : xs.length = n) (hz : xs[i]? = some z) : pcheck (ofL xs) (n : Int) (i : Int) z (wayL xs i) = 0 := by
  have hi : i < xs.length := (List.getElem?_eq_some_iff.1 hz).1
  have hn := hk.1
  refine pcheck_ok ⟨by omega, by omega, by omega⟩ ⟨vld_ofL hk.2 (by omega), allV_get hk.2 hz, allV_way xs.length xs i (Nat.le_refl _) (by omega) hk.2⟩ ?_ ?_
  · rw [Int.toNat_natCast, Int.toNat_natCast, wayL_len xs.length xs i (Nat.le_refl _) (by omega), hl]
  · rw [Int.toNat_natCast, Int.toNat_natCast, ← hl]
    exact up_way xs.length xs i z (Nat.le_refl _) (by omega) hz
theorem pmV_way {xs : List Int} {n i : Nat} (hk : leafsOk xs) (hl : xs.length = n) (hi : i < n) : pmV xs (i : Int) (n : Int) = wayL xs i ∧ pmK xs (i : Int) (n : Int) = 0 := by
  have h := pmK_ok (xs := xs) (i := (i : Int)) (m := (n : Int)) hk ⟨by omega, by omega, by omega⟩
  refine ⟨?_, h⟩
  unfold pmV
  rw [if_pos h, Int.toNat_natCast, Int.toNat_natCast, List.take_of_length_le (by omega)]
theorem way_len_le {xs : List Int} {i : Nat} (hn : xs.length ≤ 4096) : (wayL xs i).length ≤ 4096 := by
  rw [wayL_len xs.length xs i (Nat.le_refl _) hn]
  by_cases h0 : 1 ≤ xs.length
  · have := stepsN_lt xs.length i xs.length (Nat.le_refl _) hn h0
    omega
  · rw [stepsN_one i (by omega)]; omega
theorem kl_wf {i : Int} (h : 0 ≤ i) (h2 : i ≤ 1000000) : (kl i).wf = true := by simp [Lit.wf, IntKind.min, IntKind.max, IntKind.signed, IntKind.bits]; omega
/-! ### how many are known -/
def cntN (f : Nat → Bool) : Nat → Nat
  | 0 => 0
  | n + 1 => cntN f n + (if f n = true then 1 else 0)
theorem cntN_le (f : Nat → Bool) : ∀ n, cntN f n ≤ n
  | 0 => Nat.le_refl _
  | n + 1 => by
    have := cntN_le f n
    rw [cntN]
    split <;> omega
theorem cntN_same {f g : Nat → Bool} : ∀ {n : Nat}, (∀ j, j < n → f j = g j) → cntN f n = cntN g n
  | 0, _ => rfl
  | n + 1, h => by rw [cntN, cntN, cntN_same (n := n) fun j hj => h j (by omega), h n (by omega)]
theorem cntN_set {f g : Nat → Bool} {i : Nat} (h : ∀ j, j ≠ i → f j = g j) : ∀ {n : Nat}, i < n → cntN g n + (if f i = true then 1 else 0) = cntN f n + (if g i = true then 1 else 0)
  | 0, hi => by omega
  | n + 1, hi => by
    rw [cntN, cntN]
    by_cases hin : i = n
    · subst hin
      rw [cntN_same (f := f) (g := g) fun j hj => h j (by omega)]
      omega
    · have := cntN_set h (n := n) (by omega)
      rw [h n (by omega)]
      omega
theorem cntN_none : ∀ n, cntN (fun _ => false) n = 0
  | 0 => rfl
  | n + 1 => by rw [cntN, cntN_none n]; rfl
/-- all that is known is right -/
structure KGood (xs : List Int) (n : Nat) (K : Kn) (cnt : Nat) : Prop where
  inv : ∀ (j : Int) (s : Int) (q : List Int), K j = some (s, q) → ∃ jn : Nat, j = (jn : Int) ∧ xs[jn]? = some s ∧ q = wayL xs jn
  num : cnt = cntN (fun j => (K (j : Int)).isSome) n
theorem KGood.start (xs : List Int) (n : Nat) : KGood xs n (fun _ => none) 0 := ⟨fun j s q h => (by cases h), (cntN_none n).symm⟩
theorem KGood.learn {xs : List Int} {n cnt i : Nat} {K : Kn} {z : Int} (h : KGood xs n K cnt) (hz : xs[i]? = some z) (hi : i < n) : KGood xs n (K.set (i : Int) (some (z, wayL xs i))) (cntL K (i : Int) cnt) := by
  refine ⟨fun j s q hj => ?_, ?_⟩
  · unfold Kn.set at hj
    by_cases e : j = (i : Int)
    · rw [if_pos e] at hj
      injection hj with hj
      injection hj with h1 h2
      subst h1 h2 e
      exact ⟨i, rfl, hz, rfl⟩
    · rw [if_neg e] at hj
      exact h.inv j s q hj
  · have := cntN_set (f := fun j => (K (j : Int)).isSome) (g := fun j : Nat => (K.set (i : Int) (some (z, wayL xs i)) (j : Int)).isSome) (i := i) (fun j hj => by
      show _ = Option.isSome (Kn.set _ _ _ _)
      unfold Kn.set
      rw [if_neg (by omega)]) hi
    have e1 : (K.set (i : Int) (some (z, wayL xs i)) (i : Int)).isSome = true := by unfold Kn.set; rw [if_pos rfl]; rfl
    simp only [e1, if_true] at this
    unfold cntL
    rw [h.num]
    cases hk : (K (i : Int)).isSome
    · rw [hk] at this; simp at this ⊢; omega
    · rw [hk] at this; simp at this ⊢; omega
theorem KGood.forget {xs : List Int} {n cnt i : Nat} {K : Kn} (h : KGood xs n K cnt) (hs : (K (i : Int)).isSome = true) (hi : i < n) : KGood xs n (K.set (i : Int) none) (cnt - 1) := by
  refine ⟨fun j s q hj => ?_, ?_⟩
  · unfold Kn.set at hj
    by_cases e : j = (i : Int)
    · rw [if_pos e] at hj; cases hj
    · rw [if_neg e] at hj
      exact h.inv j s q hj
  · have := cntN_set (f := fun j => (K (j : Int)).isSome) (g := fun j : Nat => (K.set (i : Int) none (j : Int)).isSome) (i := i) (fun j hj => by
      show _ = Option.isSome (Kn.set _ _ _ _)
      unfold Kn.set
      rw [if_neg (by omega)]) hi
    have e1 : (K.set (i : Int) none (i : Int)).isSome = false := by unfold Kn.set; rw [if_pos rfl]; rfl
    simp only [e1, hs] at this
    rw [h.num]
    simp at this
    omega
theorem KGood.other {xs : List Int} {n cnt i : Nat} {K : Kn} {z : Int} (h : KGood xs n K cnt) (hz : xs[i]? = some z) : K (i : Int) = none ∨ ∃ q, K (i : Int) = some (z, q) := by
  cases hk : K (i : Int) with
  | none => exact .inl rfl
  | some x =>
    obtain ⟨s, q⟩ := x
    obtain ⟨jn, e, h2, _⟩ := h.inv _ _ _ hk
    have : i = jn := by omega
    subst this
    rw [hz] at h2
    injection h2 with h2
    subst h2
    exact .inr ⟨q, rfl⟩
theorem KGood.le {xs : List Int} {n cnt : Nat} {K : Kn} (h : KGood xs n K cnt) : cnt ≤ n := by rw [h.num]; exact cntN_le _ _
theorem set_known {K : Kn} {i size : Int} {z : Int} {p : List Int} (h : 0 ≤ i ∧ i < size) : fdK size (K.set i (some (z, p))) i = 0 ∧ knS size (K.set i (some (z, p))) i = z ∧ knP size (K.set i (some (z, p))) i = p := by
  have e1 : K.set i (some (z, p)) i = some (z, p) := if_pos rfl
  have e2 := fdK_some h e1
  refine ⟨e2, ?_, ?_⟩
  · unfold knS; rw [if_pos e2, e1]; rfl
  · unfold knP; rw [if_pos e2, e1]; rfl
theorem way_two : wayL [5, 6] 0 = [6] ∧ ofL [5, 6] = nodeL 5 6 := by
  have h2 : half 2 = 1 := half_eq (n := 2) (k := 0) (by decide) (by decide) (by decide) (by decide)
  constructor
  · rw [wayL_left (by decide) (by decide) (by show 0 < half 2; rw [h2]; decide)]
    show wayL (List.take (half 2) [5, 6]) 0 ++ [ofL (List.drop (half 2) [5, 6])] = [6]
    rw [h2]
    show wayL [5] 0 ++ [ofL [6]] = [6]
    rw [wayL_one (by decide), ofL_one]; rfl
  · rw [ofL_node (by decide) (by decide)]
    show nodeL (ofL (List.take (half 2) [5, 6])) (ofL (List.drop (half 2) [5, 6])) = _
    rw [h2]
    show nodeL (ofL [5]) (ofL [6]) = _
    rw [ofL_one, ofL_one]
theorem Tr.mlt {w : World} {base tb mb N cnt : Nat} {size root : Int} {K : Kn} (h : Tr w base tb mb size root N K cnt) : mb < w.heap.size := by
  obtain ⟨D, h1, _⟩ := h.ex
  exact h1.lt
theorem fdK_known {size i : Int} {K : Kn} (h : fdK size K i = 0) : (K i).isSome = true := by
  unfold fdK at h
  by_cases h1 : 0 ≤ i ∧ i < size
  · rw [if_pos h1] at h
    cases hk : (K i).isSome
    · rw [hk] at h; cases h
    · rfl
  · rw [if_neg h1] at h; cases h
end Go.Proofs.Ytcpnhmjibihpkaa
