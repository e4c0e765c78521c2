/- Contracts for every input: roots, parts of a tree. -/
import Derived.Test.YtdefdcaeiojmeaaDoorTot
import Derived.Test.YtdefdcaeiojmeaaDoorAt
namespace Go.Proofs.YtdefdcaeiojmeaaDoor
open Go.RowKit Go.WideShapes
set_option linter.unusedVariables false

def rootV (xs : List Int) : Int := if leafsK xs = 0 then ofL xs else 0
theorem Root_any (A : Option Addr) (n c : Nat) (xs : List Int) (w : World) (hr : Rd w 1 A n c (xs.map (Value.int .i64))) (hm : c ≤ maxLen) :
    Calls Tryd.prog 15 #[.slice A n c] w fun e w' => e = .returned (.tuple #[.int .i64 (rootV xs), errR (leafsK xs)]) ∧ Ext w w' := by
  by_cases hk : leafsOk xs
  · refine (Root_ok A n c xs w hr hm hk).mono fun e w' hh => ⟨hh.1.trans ?_, hh.2⟩
    unfold rootV; rw [if_pos (leafsK_ok hk), leafsK_ok hk]; rfl
  · refine (Root_bad A n c xs w hr hm hk).mono fun e w' hh => ⟨hh.1.trans ?_, hh.2⟩
    unfold rootV; rw [if_neg (leafsK_bad hk), errR_ne (leafsK_bad hk), leafsK_err hk]
def atK (xs : List Int) (i j : Int) : Int := if leafsK xs ≠ 0 then leafsK xs else if 0 ≤ i ∧ i ≤ j ∧ j ≤ xs.length then 0 else 1
def atV (xs : List Int) (i j : Int) : Int := if atK xs i j = 0 then ofL ((xs.take j.toNat).drop i.toNat) else 0
theorem atK_ok {xs : List Int} {i j : Int} (h : leafsOk xs) (h2 : 0 ≤ i ∧ i ≤ j ∧ j ≤ xs.length) : atK xs i j = 0 := by unfold atK; rw [leafsK_ok h, if_neg (by decide), if_pos h2]
theorem atK_range {xs : List Int} {i j : Int} (h : leafsOk xs) (h2 : ¬ (0 ≤ i ∧ i ≤ j ∧ j ≤ xs.length)) : atK xs i j = 1 := by unfold atK; rw [leafsK_ok h, if_neg (by decide), if_neg h2]
theorem atK_bad {xs : List Int} {i j : Int} (h : leafsK xs ≠ 0) : atK xs i j = leafsK xs := by unfold atK; rw [if_pos h]
theorem At_any (A : Option Addr) (n c : Nat) (xs : List Int) (i j : Int) (w : World) (hr : Rd w 1 A n c (xs.map (Value.int .i64))) (hm : c ≤ maxLen) :
    Calls Tryd.prog 38 #[.slice A n c, .int .i64 i, .int .i64 j] w fun e w' => e = .returned (.tuple #[.int .i64 (atV xs i j), errR (atK xs i j)]) ∧ Ext w w' := by
  have hx := hr.lenI
  by_cases hk : leafsOk xs
  · by_cases h : 0 ≤ i ∧ i ≤ j ∧ j ≤ xs.length
    · refine (At_ok A n c xs i j w hr hm hk h.1 h.2.1 (by omega)).mono fun e w' hh => ⟨hh.1.trans ?_, hh.2⟩
      unfold atV; rw [if_pos (atK_ok hk h), atK_ok hk h]; rfl
    · refine (At_range A n c xs i j w hr hm hk (by rw [← hx]; exact h)).mono fun e w' hh => ⟨hh.1.trans ?_, hh.2⟩
      unfold atV; rw [if_neg (by rw [atK_range hk h]; decide), atK_range hk h]; rfl
  · refine (At_bad A n c xs i j w hr hm hk).mono fun e w' hh => ⟨hh.1.trans ?_, hh.2⟩
    unfold atV; rw [if_neg (by rw [atK_bad (leafsK_bad hk)]; exact leafsK_bad hk), atK_bad (leafsK_bad hk), errR_ne (leafsK_bad hk), leafsK_err hk]
def splitK (n : Int) : Int := if 2 ≤ n ∧ n ≤ 200 then 0 else 1
def splitV (n : Int) : Int := if 2 ≤ n ∧ n ≤ 200 then (half n.toNat : Nat) else 0
end Go.Proofs.YtdefdcaeiojmeaaDoor
