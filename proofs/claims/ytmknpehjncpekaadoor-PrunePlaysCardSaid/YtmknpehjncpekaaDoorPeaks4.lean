/- Peaks: Of. -/
import Derived.Test.YtmknpehjncpekaaDoorPeaks2
import Derived.Deep.DeepCutAuto
import Derived.Deep.CutBlock
namespace Go.Proofs.YtmknpehjncpekaaDoor
open Go.RowKit Go.WideShapes
set_option linter.unusedVariables false
attribute [local go_sem ↓] Go.wp_at_zero Go.wp_at_succ

def onesF : Nat → Nat → Nat
  | 0, _ => 0
  | f + 1, m => m % 2 + onesF f (m / 2)
theorem ones_F : ∀ (f m : Nat), m < 2 ^ f → ones m = onesF f m
  | 0, m, h => by
    obtain rfl : m = 0 := by simpa using h
    simp [ones, onesF]
  | f + 1, m, h => by
    by_cases h0 : m = 0
    · subst h0
      rw [ones, dif_pos rfl, onesF, ← ones_F f 0 (Nat.pow_pos (by decide))]
      simp [ones]
    · rw [ones, dif_neg h0, onesF, ones_F f (m / 2) (by rw [Nat.pow_succ] at h; omega)]
def oc1 (x : Int) : Int := IntKind.u64.wrap (bits .and .u64 (x / 2) 6148914691236517205 + bits .and .u64 x 6148914691236517205)
def oc2 (x : Int) : Int := IntKind.u64.wrap (bits .and .u64 (x / 4) 3689348814741910323 + bits .and .u64 x 3689348814741910323)
def oc3 (x : Int) : Int := bits .and .u64 (IntKind.u64.wrap (x / 16 + x)) 1085102592571150095
def oc4 (x : Int) : Int := IntKind.u64.wrap (x + x / 256)
def oc5 (x : Int) : Int := IntKind.u64.wrap (x + x / 65536)
def oc6 (x : Int) : Int := IntKind.u64.wrap (x + x / 4294967296)
theorem oc_all : ∀ k : Fin 201, bits .and .i64 (wrap64 (oc6 (oc5 (oc4 (oc3 (oc2 (oc1 ((k.val : Nat) : Int)))))))) 127 = ((onesF 8 k.val : Nat) : Int) := by decide +kernel
theorem Clone_rd {w : World} {A : Option Addr} {n c : Nat} {xs : List Int} (hr : Rd w 1 A n c (xs.map (Value.int .i64))) (hl : n ≤ 4096) :
    Calls Tryd.prog 38 #[.slice A n c] w fun e w' => (∃ v', e = .returned v' ∧ OwnI w w' v' xs) ∧ Ext w w' := by
  have hx := hr.lenI
  cases A with
  | none =>
    have : n = 0 := by
      rcases Nat.eq_zero_or_pos n with h | h
      · exact h
      · obtain ⟨ad, h1, _⟩ := hr.2.2 h; cases h1
    subst this
    have : xs = [] := List.eq_nil_of_length_eq_zero hx
    subst this
    refine (Tryd.slices_Clone_int_nil 0 c w).mono fun e w' hh => ?_
    obtain ⟨rfl, rfl⟩ := hh
    exact ⟨⟨_, rfl, own_nil _ _ _ _⟩, Ext.refl _⟩
  | some a =>
    rcases Nat.eq_zero_or_pos n with h | h
    · subst h
      have : xs = [] := List.eq_nil_of_length_eq_zero hx
      subst this
      refine (Tryd.slices_Clone_int_zero a c w).mono fun e w' hh => ?_
      obtain ⟨v', rfl, h1, _, h3⟩ := hh
      exact ⟨⟨v', rfl, h1⟩, h3⟩
    · obtain ⟨ad, h1, h2, h3⟩ := hr.2.2 h
      obtain rfl : a = ad := by injection h1
      have hat : ∀ j, j < xs.length → w.cell? (a.add j) = some (.int .i64 (xs.getD j 0)) := fun j hj => h3 j _ (by rw [List.getElem?_map, List.getD_eq_getElem?_getD, List.getElem?_eq_getElem hj]; rfl)
      obtain ⟨b, off, sp⟩ := a
      have h0 := hat 0 (by omega)
      have hs : sp = none := by
        cases sp with
        | none => rfl
        | some q =>
          rw [show (⟨b, off, some q⟩ : Addr).add 0 = ⟨b, off, some q⟩ from rfl] at h0
          unfold World.cell? at h0
          simp at h0
          split at h0 <;> simp at h0
      subst hs
      refine (Tryd.slices_Clone_int b off n c xs w (by omega) (by omega) fun j hj => ?_).mono fun e w' hh => ?_
      · have := hat j hj
        rwa [add_mk] at this
      · obtain ⟨v', rfl, h1, _, h3⟩ := hh
        refine ⟨⟨v', rfl, ?_⟩, h3⟩
        rw [← hx, List.take_of_length_le (Nat.le_refl _)] at h1
        exact h1
/-- what Of tells -/
def ofK (size : Int) (xs : List Int) : Int := if size < 0 ∨ 200 < size then 1 else if xs.length ≠ ones size.toNat then 3 else if allV xs = true then 0 else 1
theorem ofK_range {size : Int} {xs : List Int} (h : size < 0 ∨ 200 < size) : ofK size xs = 1 := if_pos h
theorem ofK_len {size : Int} {xs : List Int} (h : ¬ (size < 0 ∨ 200 < size)) (h2 : xs.length ≠ ones size.toNat) : ofK size xs = 3 := by unfold ofK; rw [if_neg h, if_pos h2]
theorem ofK_val {size : Int} {xs : List Int} (h : ¬ (size < 0 ∨ 200 < size)) (h2 : ¬ xs.length ≠ ones size.toNat) : ofK size xs = if allV xs = true then 0 else 1 := by unfold ofK; rw [if_neg h, if_neg h2]
theorem ofK_zero {size : Int} {xs : List Int} (h : ofK size xs = 0) : 0 ≤ size ∧ size ≤ 200 ∧ xs.length = ones size.toNat := by
  by_cases h1 : size < 0 ∨ 200 < size
  · rw [ofK_range h1] at h; cases h
  · by_cases h2 : xs.length ≠ ones size.toNat
    · rw [ofK_len h1 h2] at h; cases h
    · exact ⟨by omega, by omega, by omega⟩
theorem own_two {w w' : World} {base n size a : Nat} {e : TypeId} {v : Value} {xs : List Value} {row : Option Nat} (h : w.ownsRow base e size v n xs) (h2 : Two w w' a row) (ha : ∀ g, v.ownBlock = some g → g ≠ a ∧ row ≠ some g) : w'.ownsRow base e size v n xs := by
  refine ⟨h.1, ?_⟩
  rcases h.2 with h3 | ⟨g, cap, cur, rfl, hg, hh, r⟩
  · exact .inl h3
  · obtain ⟨q1, q2⟩ := ha g rfl
    exact .inr ⟨g, cap, cur, rfl, hg, (h2.block g (Array.getElem?_eq_some_iff.1 hh).1 q1 (fun e => q2 e.symm)).trans hh, r⟩
end Go.Proofs.YtmknpehjncpekaaDoor
