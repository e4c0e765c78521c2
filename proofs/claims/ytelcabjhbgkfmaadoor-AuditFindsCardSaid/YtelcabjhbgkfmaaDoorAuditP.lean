/- audit: plain. -/
import Derived.Test.YtelcabjhbgkfmaaDoorAudit
namespace Go.Proofs.YtelcabjhbgkfmaaDoor
open Go.RowKit
set_option linter.unusedVariables false

theorem take_sameG {α : Type} {xs ys : List α} {j : Nat} {y : α} (h : xs.take j = ys.take j) (h1 : xs[j]? = some y) (h2 : ys[j]? = some y) : xs.take (j + 1) = ys.take (j + 1) := by
  rw [List.take_add_one, List.take_add_one, h, h1, h2]
theorem take_partG {α : Type} {xs ys : List α} {j : Nat} {y z : α} (h1 : xs[j]? = some y) (h2 : ys[j]? = some z) (e : y ≠ z) : xs ≠ ys := by
  rintro rfl; rw [h1] at h2; injection h2 with h2; exact e h2
theorem take_wholeG {α : Type} {xs ys : List α} {n : Nat} (h : xs.take n = ys.take n) (hx : xs.length = n) (hy : ys.length = n) : xs = ys := by
  rwa [List.take_of_length_le (by omega), List.take_of_length_le (by omega)] at h
def eqL {α : Type} [DecidableEq α] (xs ys : List α) : Bool := decide (xs = ys)
theorem eqL_yes {α : Type} [DecidableEq α] {xs ys : List α} (h : xs = ys) : eqL xs ys = true := decide_eq_true h
theorem eqL_no {α : Type} [DecidableEq α] {xs ys : List α} (h : xs ≠ ys) : eqL xs ys = false := decide_eq_false h

/-- slices of ints in a row -/
def LLd (w : World) (vs : List Value) (xss : List (List Int)) : Prop :=
  vs.length = xss.length ∧ ∀ (i : Nat) (xs : List Int), xss[i]? = some xs → ∃ A c, vs[i]? = some (.slice A xs.length c) ∧ c ≤ maxLen ∧ Rd w 1 A xs.length c (xs.map (Value.int .i64))
theorem LLd.nil (w : World) : LLd w [] [] := ⟨rfl, fun i xs h => by simp at h⟩
theorem LLd.ext {w w' : World} {vs : List Value} {xss : List (List Int)} (h : LLd w vs xss) (e : Ext w w') : LLd w' vs xss :=
  ⟨h.1, fun i xs hx => by obtain ⟨A, c, h1, h2, h3⟩ := h.2 i xs hx; exact ⟨A, c, h1, h2, h3.ext e⟩⟩
theorem LLd.snoc {w : World} {vs : List Value} {xss : List (List Int)} {xs : List Int} {A : Option Addr} {c : Nat} (h : LLd w vs xss) (hm : c ≤ maxLen) (hr : Rd w 1 A xs.length c (xs.map (Value.int .i64))) : LLd w (vs ++ [.slice A xs.length c]) (xss ++ [xs]) := by
  refine ⟨by rw [List.length_append, List.length_append, h.1]; rfl, fun i ys hy => ?_⟩
  by_cases hi : i < xss.length
  · rw [List.getElem?_append_left hi] at hy
    obtain ⟨B, d, h1, h2, h3⟩ := h.2 i ys hy
    exact ⟨B, d, by rw [List.getElem?_append_left (by rw [h.1]; exact hi)]; exact h1, h2, h3⟩
  · have hii : i = xss.length := by
      have := (List.getElem?_eq_some_iff.1 hy).1
      simp at this; omega
    subst hii
    rw [List.getElem?_append_right (Nat.le_refl _), Nat.sub_self] at hy
    obtain rfl : xs = ys := by simpa using hy
    exact ⟨A, c, by rw [List.getElem?_append_right (by rw [h.1]; exact Nat.le_refl _), h.1, Nat.sub_self]; rfl, hm, hr⟩
theorem LLd.set {w : World} {vs : List Value} {xss : List (List Int)} {xs : List Int} {A : Option Addr} {c : Nat} (h : LLd w vs xss) (at_ : Nat) (hm : c ≤ maxLen) (hr : Rd w 1 A xs.length c (xs.map (Value.int .i64))) : LLd w (vs.set at_ (.slice A xs.length c)) (xss.set at_ xs) := by
  refine ⟨by rw [List.length_set, List.length_set, h.1], fun i ys hy => ?_⟩
  by_cases e : at_ = i
  · subst e
    have hl : at_ < xss.length := by
      have := (List.getElem?_eq_some_iff.1 hy).1
      simpa using this
    rw [List.getElem?_set_self hl] at hy
    obtain rfl : xs = ys := by injection hy
    exact ⟨A, c, by rw [List.getElem?_set_self (by rw [h.1]; exact hl)], hm, hr⟩
  · rw [List.getElem?_set_ne e] at hy
    obtain ⟨B, d, h1, h2, h3⟩ := h.2 i ys hy
    exact ⟨B, d, by rw [List.getElem?_set_ne e]; exact h1, h2, h3⟩

/-- the sums of a tile -/
def tlS (xs : List Int) (t : Tl) : List Int := sumsT xs t.level.toNat t.index.toNat t.wide.toNat
def tilesT (es : List Ent) : List Tl := if entsErr es = 0 then allT es.length 4 else []
def tilesV (es : List Ent) : List (List Int) := if entsErr es = 0 then (allT es.length 4).map (tlS (es.map Ent.leaf)) else []
theorem tilesV_map (es : List Ent) : tilesV es = (tilesT es).map (tlS (es.map Ent.leaf)) := by
  unfold tilesV tilesT
  split <;> rfl
theorem tilesV_len (es : List Ent) : (tilesV es).length = (tilesT es).length := by rw [tilesV_map, List.length_map]
theorem tilesT_len (es : List Ent) : (tilesT es).length ≤ 204 := by
  unfold tilesT
  split
  · rename_i h
    refine allT_len _ ?_ 4
    unfold entsErr at h
    split at h
    · cases h
    · omega
  · simp
/-- which of the first j tiles are not what they should be -/
def badJ (T : List Tl) (ys rs : List (List Int)) : Nat → List Tl
  | 0 => []
  | j + 1 => if ys[j]? = rs[j]? then badJ T ys rs j else badJ T ys rs j ++ (T[j]?).toList
theorem badJ_len (T : List Tl) (ys rs : List (List Int)) : ∀ j, (badJ T ys rs j).length ≤ j
  | 0 => Nat.le_refl _
  | j + 1 => by
    have := badJ_len T ys rs j
    unfold badJ
    split
    · omega
    · rw [List.length_append]
      have : (T[j]?).toList.length ≤ 1 := by cases T[j]? <;> simp
      omega
theorem badJ_same (T : List Tl) (ys : List (List Int)) : ∀ j, badJ T ys ys j = []
  | 0 => rfl
  | j + 1 => by rw [badJ, if_pos rfl, badJ_same T ys j]
theorem badJ_set {T : List Tl} {rs : List (List Int)} {at_ : Nat} {r r' : List Int} {t : Tl} (h : rs[at_]? = some r) (hr : r' ≠ r) (ht : T[at_]? = some t) : ∀ j, badJ T (rs.set at_ r') rs j = if at_ < j then [t] else []
  | 0 => rfl
  | j + 1 => by
    have ih := badJ_set h hr ht j
    have hl := (List.getElem?_eq_some_iff.1 h).1
    unfold badJ
    by_cases e : at_ = j
    · subst e
      rw [if_neg (by rw [List.getElem?_set_self hl, h]; intro e; injection e with e; exact hr e), ih, if_neg (by omega), if_pos (by omega), ht]; rfl
    · rw [if_pos (List.getElem?_set_ne e), ih]
      by_cases h2 : at_ < j
      · rw [if_pos h2, if_pos (by omega)]
      · rw [if_neg h2, if_neg (by omega)]
def badK (es : List Ent) (m : Nat) : Int := if entsErr es ≠ 0 then entsErr es else if m ≠ (tilesT es).length then 3 else 0
def badV (es : List Ent) (ys : List (List Int)) : List Tl := if badK es ys.length = 0 then badJ (tilesT es) ys (tilesV es) (tilesT es).length else []
end Go.Proofs.YtelcabjhbgkfmaaDoor
