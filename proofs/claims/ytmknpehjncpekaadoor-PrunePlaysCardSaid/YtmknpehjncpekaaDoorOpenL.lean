/- Arguments opened: slices of slices, over any program. -/
import Derived.Test.YtmknpehjncpekaaDoorOpen
namespace Go.Proofs.YtmknpehjncpekaaDoor
set_option linter.unusedVariables false
open Go.ChangeShapes Go.WideShapes Go.ChangeAt Go.RowKit Go.Deep Go.Joins

/-- a slice and what it holds -/
structure RowG (τ : Type) where
  A : Option Addr
  n : Nat
  c : Nat
  xs : List τ
instance {τ : Type} : Inhabited (RowG τ) := ⟨⟨none, 0, 0, []⟩⟩
def RowG.cells {τ : Type} (r : RowG τ) : List Value := [.slice r.A r.n r.c]
def RowG.good {τ : Type} (w : World) (C : Nat) (f : τ → List Value) (ok : τ → Prop) (r : RowG τ) : Prop := r.xs.length = r.n ∧ r.c ≤ maxLen ∧ Rd w C r.A r.n r.c (r.xs.flatMap f) ∧ ∀ y ∈ r.xs, ok y
section
variable {H : Type} {enc : TypeId × Value → H} {P : Program} {w : World} {spare : Nat → Bool} {held : Bool}
theorem dec_row {τ : Type} [Inhabited τ] (C : Nat) (hC0 : 0 < C) (f : τ → List Value) (good : τ → Prop) (hlen : ∀ y, (f y).length = C) {t e : TypeId} (ht : P.underlying t = some (.slice e)) (hC : P.cellsOf e = C)
    (dec : ∀ n cs x, DataW.trod enc P w 0 spare held n e cs = some x → ∃ y, cs = f y ∧ good y)
    {fuel : Nat} {cs : List Value} {x : DataW H × List MemPlace} (h : DataW.trod enc P w 0 spare held fuel t cs = some x) :
    ∃ y : RowG τ, cs = y.cells ∧ y.good w C f good := by
  obtain ⟨d, p⟩ := x
  rcases open_slice ht h with ⟨hcs, _⟩ | ⟨a, len, cap, m, n, D, Pl, hcs, _, hl, hm, hmm, _, hi⟩
  · exact ⟨⟨none, 0, 0, []⟩, hcs, rfl, Nat.zero_le _, Rd.nil _ _ _ _, by simp⟩
  · have hlm : len ≤ m := by rw [hmm]; split <;> omega
    have key : ∀ i, i < len → ∃ y : τ, w.cells? 0 (a.add (i * C)) C = some (f y) ∧ good y := fun i hil => by
      obtain ⟨cs', h1, h2⟩ := hi i (by omega)
      obtain ⟨y, rfl, hy⟩ := dec _ _ _ h2
      rw [hC] at h1
      exact ⟨y, h1, hy⟩
    obtain ⟨F, hF⟩ := choose_lt key
    refine ⟨⟨some a, len, cap, (List.range len).map F⟩, hcs, by simp, hm, ⟨?_, hl, fun hn => ?_⟩, ?_⟩
    · rw [flat_len f C hlen]; simp
    · refine ⟨a, rfl, ?_, fun j u hu => ?_⟩
      · have := block_lt_of_cells hC0 (hF 0 hn).1
        rwa [blk_add] at this
      · obtain ⟨i, r, y, hil, hr, rfl, hy, hru⟩ := flat_get f C hlen _ _ _ hu
        simp at hil
        have hyF : y = F i := by
          rw [List.getElem?_map, List.getElem?_range (by omega)] at hy
          simpa using hy.symm
        subst hyF
        obtain ⟨_, _, hat⟩ := World.cells?_some (hF i hil).1
        rw [← add_add', hat r hr, hru]
    · intro y hy
      obtain ⟨i, hi1, rfl⟩ := List.mem_map.1 hy
      exact (hF i (List.mem_range.1 hi1)).2
end
/-- the cells of slices in a row, one each -/
theorem flat_rows {τ : Type} (rs : List (RowG τ)) : rs.flatMap RowG.cells = rs.map fun r => .slice r.A r.n r.c := by
  induction rs with
  | nil => rfl
  | cons r rs ih => rw [List.flatMap_cons, ih]; rfl
end Go.Proofs.YtmknpehjncpekaaDoor
