/- A slice of strings that came in: each string lies within the reach. -/
import Derived.Test.YtgfkalhpefjenaaDoorOpen
import Derived.SizedLaws
namespace Go.Proofs.YtgfkalhpefjenaaDoor
open Go.ChangeShapes Go.WideShapes Go.ChangeAt Go.RowKit Go.Deep Go.Joins
set_option linter.unusedVariables false

section
variable {H : Type} {enc : TypeId × Value → H} {P : Program} {w : World} {spare : Nat → Bool} {held : Bool}
theorem weightsAll_mem {e : TypeId} : ∀ {l : List (DataW H)} {d : DataW H} {k : Nat}, d ∈ l → k ∈ d.weights P e → k ∈ DataW.weightsAll P e l
  | d' :: l, d, k, hd, hk => by
    rw [DataW.weightsAll, List.mem_append]
    rcases List.mem_cons.1 hd with rfl | h
    · exact .inl hk
    · exact .inr (weightsAll_mem h hk)
theorem open_strz {t e : TypeId} (ht : P.underlying t = some (.slice e)) (he : P.underlying e = some .string) (hC : P.cellsOf e = 1)
    {r : Reach} {b0 : Nat} {v : Value} {d : DataW H} {p : List MemPlace} (hv : Value.okWide P w r b0 t v) (h : DataW.Trod enc P w 0 spare held t v d p) :
    ∃ (A : Option Addr) (n c : Nat) (ys : List ByteArray), v = .slice A n c ∧ ys.length = n ∧ c ≤ maxLen ∧ Rd w 1 A n c (ys.flatMap scells) ∧ (∀ y ∈ ys, sgood y) ∧ ∀ y ∈ ys, y.size ∈ d.weights P t := by
  obtain ⟨a0, len, cap, rfl⟩ := okWide_slice ht hv
  obtain ⟨fuel, hf⟩ := h
  rcases open_slice ht hf with ⟨hcs, _⟩ | ⟨a, len', cap', m, n, D, Pl, hcs, _, hl, hm, hmm, hx, hi⟩
  · simp [Value.cells] at hcs
    obtain ⟨rfl, rfl, rfl⟩ := hcs
    exact ⟨none, 0, 0, [], rfl, rfl, Nat.zero_le _, Rd.nil _ _ _ _, by simp, by simp⟩
  · simp [Value.cells] at hcs
    obtain ⟨rfl, rfl, rfl⟩ := hcs
    have hlm : len ≤ m := by rw [hmm]; split <;> omega
    have key : ∀ i, i < len → ∃ y : ByteArray, w.cells? 0 (a.add (i * 1)) 1 = some (scells y) ∧ sgood y ∧ D i = .lit (.string y.data.toList) := fun i hil => by
      obtain ⟨cs', h1, h2⟩ := hi i (by omega)
      obtain ⟨y, rfl, hy, hg⟩ := DataW.trod_string he h2
      rw [hC] at h1
      exact ⟨y, h1, hg, congrArg Prod.fst hy⟩
    obtain ⟨F, hF⟩ := choose_lt key
    injection hx with hd hp
    refine ⟨some a, len, cap, (List.range len).map F, rfl, by simp, hm, ⟨?_, hl, fun hn => ?_⟩, ?_, ?_⟩
    · rw [flat_len scells 1 (fun _ => rfl)]; simp
    · refine ⟨a, rfl, ?_, fun j u hu => ?_⟩
      · have := block_lt_of_cells (by decide) (hF 0 hn).1
        rwa [blk_add] at this
      · obtain ⟨i, r, y, hil, hr, rfl, hy, hru⟩ := flat_get scells 1 (fun _ => rfl) _ _ _ hu
        simp at hil
        have hyF : y = F i := by
          rw [List.getElem?_map, List.getElem?_range (by omega)] at hy
          simpa using hy.symm
        subst hyF
        obtain ⟨_, _, hat⟩ := World.cells?_some (hF i hil).1
        rw [← add_add', hat r hr, hru]
    · intro y hy
      obtain ⟨i, hi1, rfl⟩ := List.mem_map.1 hy
      exact (hF i (List.mem_range.1 hi1)).2.1
    · intro y hy
      obtain ⟨i, hi1, rfl⟩ := List.mem_map.1 hy
      have hDi := (hF i (List.mem_range.1 hi1)).2.2
      rw [hd]
      have hmem : D i ∈ (List.range len).map D := List.mem_map.2 ⟨i, hi1, rfl⟩
      have hw : (F i).size ∈ (D i).weights P e := by rw [hDi]; simp [DataW.weights]
      simp only [DataW.weights, ht, List.mem_cons, List.mem_append]
      exact .inr (.inl (weightsAll_mem hmem hw))
theorem sized_strz {ts : List TypeId} {ds : List (DataW H)} (h : (DataW.weightsEach P ts ds).all (· ≤ reachBytes) = true) {j : Nat} {t : TypeId} {d : DataW H} (ht : ts[j]? = some t) (hd : ds[j]? = some d) {k : Nat} (hk : k ∈ d.weights P t) : k ≤ 140737488355328 := by
  have := List.all_eq_true.1 h _ (DataW.weights_mem_each ht hd k hk)
  exact Nat.le_trans (by simpa using this) (Nat.le_of_lt reachBytes_lt)
end
end Go.Proofs.YtgfkalhpefjenaaDoor
