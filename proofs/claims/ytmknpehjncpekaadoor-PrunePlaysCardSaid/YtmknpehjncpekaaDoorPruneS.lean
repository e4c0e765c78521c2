/- PrunePlays: what the law itself keeps: sums and proofs in two rows. -/
import Derived.Test.YtmknpehjncpekaaDoorPruneR
import Derived.Laws.MakeOwn
namespace Go.Proofs.YtmknpehjncpekaaDoor
open Go.RowKit Go.WideShapes
set_option linter.unusedVariables false

/-- the sum that is known of a place, or -1 -/
def kvI (K : Kn) (i : Nat) : Int := match K (i : Int) with | some (s, _) => s | none => -1
def rowC (f : Nat → Value) (n : Nat) : Array Value := ((List.range n).map f).toArray
theorem rowC_get (f : Nat → Value) {n i : Nat} (h : i < n) : (rowC f n)[i]? = some (f i) := by
  simp [rowC, h]
theorem rowC_set (f : Nat → Value) {n i : Nat} (h : i < n) (v : Value) : (rowC f n).setIfInBounds i v = rowC (fun j => if j = i then v else f j) n := by
  apply Array.ext
  · simp [rowC]
  · intro j h1 h2
    have hj : j < n := by simpa [rowC] using h2
    by_cases e : j = i
    · subst e; simp [rowC]
    · rw [Array.getElem_setIfInBounds_ne (by simpa [rowC] using hj) (fun h => e h.symm)]
      simp [rowC, e]
theorem rowC_congr {f g : Nat → Value} {n : Nat} (h : ∀ i, i < n → f i = g i) : rowC f n = rowC g n := by
  unfold rowC
  congr 1
  apply List.map_congr_left
  intro i hi
  exact h i (List.mem_range.1 hi)
theorem made_row (z : Value) (n : Nat) (hz : z.cells = #[z]) : madeCells z.cells (n * 1) = rowC (fun _ => z) n := by
  rw [hz]
  apply Array.ext
  · simp [madeCells, rowC]
  · intro j h1 h2
    simp [madeCells, rowC, Nat.mod_one]
/-- the two rows: what is known is kept, and its proof can be read -/
structure KnS (w : World) (kb qb mb n : Nat) (K : Kn) (pv : Nat → Value) : Prop where
  kn : Bk w kb 3 (rowC (fun i => .int .i64 (kvI K i)) n)
  pr : Bk w qb 22 (rowC pv n)
  rows : ∀ i, i < n → ∀ s p, K ((i : Nat) : Int) = some (s, p) → 0 ≤ s ∧ ∃ A c, pv i = .slice A p.length c ∧ c ≤ maxLen ∧ Rd w 1 A p.length c (p.map (Value.int .i64)) ∧ ∀ ad, A = some ad → 0 < p.length → ad.block ≠ kb ∧ ad.block ≠ qb ∧ ad.block ≠ mb
  short : ∀ i s p, K i = some (s, p) → p.length ≤ 4096
theorem KnS.ext {w w' : World} {kb qb mb n : Nat} {K : Kn} {pv : Nat → Value} (h : KnS w kb qb mb n K pv) (e : Ext w w') : KnS w' kb qb mb n K pv :=
  ⟨h.kn.ext e, h.pr.ext e, fun i hi s p hk => by
    obtain ⟨h1, A, c, h2, h3, h4, h5⟩ := h.rows i hi s p hk
    exact ⟨h1, A, c, h2, h3, h4.ext e, h5⟩, h.short⟩
theorem KnS.kept {w w' : World} {kb qb mb n : Nat} {K : Kn} {pv : Nat → Value} (h : KnS w kb qb mb n K pv) (e : w.grownBy w' (some mb)) (h1 : mb ≠ kb) (h2 : mb ≠ qb) : KnS w' kb qb mb n K pv :=
  ⟨h.kn.kept e (fun e => h1 (by injection e)), h.pr.kept e (fun e => h2 (by injection e)), fun i hi s p hk => by
    obtain ⟨q1, A, c, q2, q3, q4, q5⟩ := h.rows i hi s p hk
    exact ⟨q1, A, c, q2, q3, q4.kept e (fun hn ad ha e => (q5 ad ha hn).2.2 (by injection e with e; exact e.symm)), q5⟩, h.short⟩
theorem KnS.sum {w : World} {kb qb mb n : Nat} {K : Kn} {pv : Nat → Value} (h : KnS w kb qb mb n K pv) {i : Nat} (hi : i < n) : w.cell? ⟨kb, i, none⟩ = some (.int .i64 (kvI K i)) := (h.kn.cell i).trans (rowC_get _ hi)
theorem KnS.row {w : World} {kb qb mb n : Nat} {K : Kn} {pv : Nat → Value} (h : KnS w kb qb mb n K pv) {i : Nat} (hi : i < n) : w.cell? ⟨qb, i, none⟩ = some (pv i) := (h.pr.cell i).trans (rowC_get _ hi)
theorem kv_neg {w : World} {kb qb mb n : Nat} {K : Kn} {pv : Nat → Value} (h : KnS w kb qb mb n K pv) {i : Nat} (hi : i < n) : (K ((i : Nat) : Int) = none ∧ kvI K i = -1) ∨ ∃ s p, K ((i : Nat) : Int) = some (s, p) ∧ kvI K i = s ∧ 0 ≤ s := by
  cases hk : K ((i : Nat) : Int) with
  | none => exact .inl ⟨rfl, by unfold kvI; rw [hk]⟩
  | some x =>
    obtain ⟨s, p⟩ := x
    exact .inr ⟨s, p, rfl, by unfold kvI; rw [hk], (h.rows i hi s p hk).1⟩
/-- a sum and its proof are noted -/
theorem KnS.learn {w : World} {kb qb mb n : Nat} {K : Kn} {pv : Nat → Value} (h : KnS w kb qb mb n K pv) {i : Nat} (hi : i < n) {s : Int} {p : List Int} {A : Option Addr} {c : Nat} (hs : 0 ≤ s) (hl4 : p.length ≤ 4096) (hm : c ≤ maxLen) (hr : Rd w 1 A p.length c (p.map (Value.int .i64)))
    (hA : ∀ ad, A = some ad → 0 < p.length → ad.block ≠ kb ∧ ad.block ≠ qb ∧ ad.block ≠ mb) (hne : kb ≠ qb) :
    KnS ((w.setCell ⟨kb, i, none⟩ (.int .i64 s)).setCell ⟨qb, i, none⟩ (.slice A p.length c)) kb qb mb n (K.set (i : Int) (some (s, p))) (fun j => if j = i then .slice A p.length c else pv j) := by
  have g1 := gb_set w kb i (.int .i64 s)
  have g2 := gb_set (w.setCell ⟨kb, i, none⟩ (.int .i64 s)) qb i (.slice A p.length c)
  have rd : ∀ (A' : Option Addr) (m c' : Nat) (us : List Value), Rd w 1 A' m c' us → (∀ ad, A' = some ad → 0 < m → ad.block ≠ kb ∧ ad.block ≠ qb ∧ ad.block ≠ mb) → Rd ((w.setCell ⟨kb, i, none⟩ (.int .i64 s)).setCell ⟨qb, i, none⟩ (.slice A p.length c)) 1 A' m c' us := fun A' m c' us hr' ha' =>
    (hr'.kept g1 (fun hn ad had e => (ha' ad had hn).1 (by injection e with e; exact e.symm))).kept g2 (fun hn ad had e => (ha' ad had hn).2.1 (by injection e with e; exact e.symm))
  refine ⟨?_, ?_, fun j hj s' p' hk => ?_, fun j s' p' hk => ?_⟩
  · have h1 := (h.kn.set_ i (.int .i64 s)).kept g2 (fun e => hne (by injection e with e; exact e.symm))
    rw [rowC_set _ hi] at h1
    rw [show rowC (fun j => Value.int .i64 (kvI (K.set (i : Int) (some (s, p))) j)) n = rowC (fun j => if j = i then Value.int .i64 s else .int .i64 (kvI K j)) n from rowC_congr fun j hj => by
      by_cases e : j = i
      · subst e
        rw [if_pos rfl]
        unfold kvI Kn.set
        rw [if_pos rfl]
      · rw [if_neg e]
        unfold kvI Kn.set
        rw [if_neg (by omega)]]
    exact h1
  · have h1 := (h.pr.kept g1 (fun e => hne (by injection e))).set_ i (.slice A p.length c)
    rw [rowC_set _ hi] at h1
    exact h1
  · by_cases e : j = i
    · subst e
      unfold Kn.set at hk
      rw [if_pos rfl] at hk
      injection hk with hk
      injection hk with e1 e2
      subst e1 e2
      exact ⟨hs, A, c, if_pos rfl, hm, rd A _ c _ hr hA, hA⟩
    · unfold Kn.set at hk
      rw [if_neg (by omega)] at hk
      obtain ⟨q1, A', c', q2, q3, q4, q5⟩ := h.rows j hj s' p' hk
      exact ⟨q1, A', c', (if_neg e).trans q2, q3, rd A' _ c' _ q4 q5, q5⟩
  · unfold Kn.set at hk
    by_cases e : j = (i : Int)
    · rw [if_pos e] at hk
      injection hk with hk
      injection hk with _ e2
      rw [← e2]; exact hl4
    · rw [if_neg e] at hk; exact h.short j s' p' hk
/-- a sum is struck -/
theorem KnS.forget {w : World} {kb qb mb n : Nat} {K : Kn} {pv : Nat → Value} (h : KnS w kb qb mb n K pv) {i : Nat} (hi : i < n) (hne : kb ≠ qb) :
    KnS (w.setCell ⟨kb, i, none⟩ (.int .i64 (-1))) kb qb mb n (K.set (i : Int) none) pv := by
  have g1 := gb_set w kb i (.int .i64 (-1))
  refine ⟨?_, h.pr.kept g1 (fun e => hne (by injection e)), fun j hj s' p' hk => ?_, fun j s' p' hk => ?_⟩
  · have h1 := h.kn.set_ i (.int .i64 (-1))
    rw [rowC_set _ hi] at h1
    rw [show rowC (fun j => Value.int .i64 (kvI (K.set (i : Int) none) j)) n = rowC (fun j => if j = i then Value.int .i64 (-1) else .int .i64 (kvI K j)) n from rowC_congr fun j hj => by
      by_cases e : j = i
      · subst e
        rw [if_pos rfl]
        unfold kvI Kn.set
        rw [if_pos rfl]
      · rw [if_neg e]
        unfold kvI Kn.set
        rw [if_neg (by omega)]]
    exact h1
  · have e : j ≠ i := by
      intro e; subst e
      unfold Kn.set at hk
      rw [if_pos rfl] at hk
      cases hk
    unfold Kn.set at hk
    rw [if_neg (by omega)] at hk
    obtain ⟨q1, A', c', q2, q3, q4, q5⟩ := h.rows j hj s' p' hk
    exact ⟨q1, A', c', q2, q3, q4.kept g1 (fun hn ad had e => (q5 ad had hn).1 (by injection e with e; exact e.symm)), q5⟩
  · unfold Kn.set at hk
    by_cases e : j = (i : Int)
    · rw [if_pos e] at hk; cases hk
    · rw [if_neg e] at hk; exact h.short j s' p' hk
/-- at the beginning nothing is known -/
theorem KnS.start {w : World} {kb qb mb n : Nat} (h1 : Bk w kb 3 (rowC (fun _ => .int .i64 (-1)) n)) (h2 : Bk w qb 22 (rowC (fun _ => .slice none 0 0) n)) : KnS w kb qb mb n (fun _ => none) (fun _ => .slice none 0 0) :=
  ⟨h1, h2, fun i hi s p h => (by cases h), fun i s p h => (by cases h)⟩
/-- the first i are -1 -/
def initF (i : Nat) : Nat → Value := fun j => if j < i then .int .i64 (-1) else .int .i64 0
theorem init_set {n i : Nat} (h : i < n) : (rowC (initF i) n).setIfInBounds i (.int .i64 (-1)) = rowC (initF (i + 1)) n := by
  rw [rowC_set _ h]
  exact rowC_congr fun j hj => by
    unfold initF
    by_cases e : j = i
    · subst e; rw [if_pos rfl, if_pos (by omega)]
    · rw [if_neg e]
      by_cases e2 : j < i
      · rw [if_pos e2, if_pos (by omega)]
      · rw [if_neg e2, if_neg (by omega)]
theorem init_all (n : Nat) : rowC (initF n) n = rowC (fun _ => .int .i64 (-1)) n := rowC_congr fun j hj => if_pos hj
theorem init_none (n : Nat) : rowC (initF 0) n = rowC (fun _ => .int .i64 0) n := rowC_congr fun j hj => if_neg (by omega)
end Go.Proofs.YtmknpehjncpekaaDoor
