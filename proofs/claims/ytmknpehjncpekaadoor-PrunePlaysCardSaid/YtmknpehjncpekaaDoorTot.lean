/- Contracts for every input: the fault by its number. -/
import Derived.Test.YtmknpehjncpekaaDoorPCheck
import Derived.Test.YtmknpehjncpekaaDoorProof
namespace Go.Proofs.YtmknpehjncpekaaDoor
open Go.RowKit Go.WideShapes
set_option linter.unusedVariables false

/-- what is wrong with leafs -/
def leafsK (xs : List Int) : Int := if 200 < xs.length then 4 else if allV xs = true then 0 else 1
theorem leafsK_ok {xs : List Int} (h : leafsOk xs) : leafsK xs = 0 := by unfold leafsK; rw [if_neg (by have := h.1; omega), if_pos h.2]
theorem leafsK_bad {xs : List Int} (h : ¬ leafsOk xs) : leafsK xs ≠ 0 := by
  unfold leafsK
  by_cases h2 : 200 < xs.length
  · rw [if_pos h2]; decide
  · rw [if_neg h2]
    cases hv : allV xs
    · rw [if_neg (by decide)]; decide
    · exact absurd ⟨by omega, hv⟩ h
theorem leafsK_zero {xs : List Int} (h : leafsK xs = 0) : leafsOk xs := by
  by_cases hk : leafsOk xs
  · exact hk
  · exact absurd h (leafsK_bad hk)
theorem leafsK_err {xs : List Int} (h : ¬ leafsOk xs) : leafsK xs = leafsErr xs := by
  unfold leafsK leafsErr
  by_cases h2 : 200 < xs.length
  · rw [if_pos h2, if_pos h2]
  · rw [if_neg h2, if_neg h2]
    cases hv : allV xs
    · rw [if_neg (by decide)]
    · exact absurd ⟨by omega, hv⟩ h
theorem TCheck_any (A : Option Addr) (n c : Nat) (xs : List Int) (w : World) (hr : Rd w 1 A n c (xs.map (Value.int .i64))) (hm : c ≤ maxLen) :
    Calls Tryd.prog 79 #[.slice A n c] w fun e w' => e = .returned (errR (leafsK xs)) ∧ w = w' := by
  have hx := hr.lenI
  by_cases hk : leafsOk xs
  · refine (TCheck_ok A n c xs w hr hm (by have := hk.1; omega) hk.2).mono fun e w' hh => ⟨hh.1.trans ?_, hh.2⟩
    rw [leafsK_ok hk]; rfl
  · refine (TCheck_bad A n c xs w hr hm hk).mono fun e w' hh => ⟨hh.1.trans ?_, hh.2⟩
    rw [← leafsK_err hk, errR_ne (leafsK_bad hk)]

/-- proof.Make: the fault, the proof -/
def pmK (xs : List Int) (i m : Int) : Int := if leafsK xs ≠ 0 then leafsK xs else if 0 ≤ i ∧ i < m ∧ m ≤ xs.length then 0 else 1
def pmV (xs : List Int) (i m : Int) : List Int := if pmK xs i m = 0 then wayL (xs.take m.toNat) i.toNat else []
theorem pmK_ok {xs : List Int} {i m : Int} (h : leafsOk xs) (h2 : 0 ≤ i ∧ i < m ∧ m ≤ xs.length) : pmK xs i m = 0 := by unfold pmK; rw [leafsK_ok h, if_neg (by decide), if_pos h2]
theorem pmK_range {xs : List Int} {i m : Int} (h : leafsOk xs) (h2 : ¬ (0 ≤ i ∧ i < m ∧ m ≤ xs.length)) : pmK xs i m = 1 := by unfold pmK; rw [leafsK_ok h, if_neg (by decide), if_neg h2]
theorem pmK_bad {xs : List Int} {i m : Int} (h : leafsK xs ≠ 0) : pmK xs i m = leafsK xs := by unfold pmK; rw [if_pos h]
theorem pmK_zero {xs : List Int} {i m : Int} (h : pmK xs i m = 0) : leafsOk xs ∧ 0 ≤ i ∧ i < m ∧ m ≤ xs.length := by
  by_cases hk : leafsOk xs
  · by_cases h2 : 0 ≤ i ∧ i < m ∧ m ≤ xs.length
    · exact ⟨hk, h2⟩
    · rw [pmK_range hk h2] at h; cases h
  · rw [pmK_bad (leafsK_bad hk)] at h; exact absurd h (leafsK_bad hk)
/-- proof.Steps -/
def stepsK (i m : Int) : Int := if 0 ≤ i ∧ i < m ∧ m ≤ 200 then 0 else 1
def stepsV (i m : Int) : Int := if 0 ≤ i ∧ i < m ∧ m ≤ 200 then (stepsN i.toNat m.toNat : Nat) else 0
theorem Steps_any (i m : Int) (w : World) : Calls Tryd.prog 62 #[.int .i64 i, .int .i64 m] w fun e w' => e = .returned (.tuple #[.int .i64 (stepsV i m), errR (stepsK i m)]) ∧ Ext w w' := by
  by_cases h : 0 ≤ i ∧ i < m ∧ m ≤ 200
  · refine (Steps_ok i m w h.1 h.2.1 h.2.2).mono fun e w' hh => ⟨hh.1.trans ?_, hh.2⟩
    unfold stepsV stepsK; rw [if_pos h, if_pos h]; rfl
  · refine (Steps_bad i m w h).mono fun e w' hh => ⟨hh.1.trans ?_, hh.2⟩
    unfold stepsV stepsK; rw [if_neg h, if_neg h]; rfl
end Go.Proofs.YtmknpehjncpekaaDoor
