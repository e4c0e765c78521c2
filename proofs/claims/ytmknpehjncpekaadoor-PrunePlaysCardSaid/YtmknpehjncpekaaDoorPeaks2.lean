/- Peaks: Append both ways, Parts. -/
import Derived.Test.YtmknpehjncpekaaDoorPeaks
import Derived.Test.YtmknpehjncpekaaDoorProof
import Derived.Test.YtmknpehjncpekaaDoorShelf
namespace Go.Proofs.YtmknpehjncpekaaDoor
open Go.RowKit Go.WideShapes
set_option linter.unusedVariables false
attribute [local go_sem ↓] Go.wp_at_zero Go.wp_at_succ

def appX (xs : List Int) (s : Int) : List Int := if appK xs.length s = 0 then xs ++ [s] else xs
theorem Two.refl (w : World) (a : Nat) (r : Option Nat) : Two w w a r := ⟨rfl, rfl, rfl, Nat.le_refl _, fun _ _ _ _ => rfl⟩
theorem appK_zero {n : Nat} {s : Int} (h : vld s = true ∧ n < 200) : appK n s = 0 := by unfold appK; rw [if_pos h.1, if_pos h.2]
theorem appK_ne {n : Nat} {s : Int} (h : ¬ (vld s = true ∧ n < 200)) : appK n s ≠ 0 := by
  unfold appK
  by_cases h1 : vld s = true
  · rw [if_pos h1, if_neg (fun h2 => h ⟨h1, h2⟩)]; decide
  · rw [if_neg h1]; decide
theorem appX_yes {xs : List Int} {s : Int} (h : vld s = true ∧ xs.length < 200) : appX xs s = xs ++ [s] := if_pos (appK_zero h)
theorem appX_no {xs : List Int} {s : Int} (h : ¬ (vld s = true ∧ xs.length < 200)) : appX xs s = xs := if_neg (appK_ne h)
theorem appX_len {xs : List Int} {s : Int} (h : xs.length ≤ 200) : (appX xs s).length ≤ 200 := by
  by_cases hk : vld s = true ∧ xs.length < 200
  · rw [appX_yes hk]; simp; omega
  · rw [appX_no hk]; exact h
theorem appX_allV {xs : List Int} {s : Int} (h : allV xs = true) : allV (appX xs s) = true := by
  by_cases hk : vld s = true ∧ xs.length < 200
  · rw [appX_yes hk]
    have := hk.1
    simp [allV] at h ⊢
    exact ⟨h, this⟩
  · rw [appX_no hk]; exact h
/-- a copy -/
theorem Clone_own {w : World} {base : Nat} {v : Value} {ys : List Int} (h : w.ownsRow base 3 1 v ys.length (ys.map (Value.int .i64))) (hl : ys.length ≤ 4096) :
    Calls Tryd.prog 38 #[v] w fun e w' => (∃ v', e = .returned v' ∧ OwnI w w' v' ys) ∧ Ext w w' := by
  rcases h.2 with ⟨rfl, h0⟩ | ⟨g, cap, cur, rfl, hg, hh, hn, hm, r⟩
  · have : ys = [] := List.eq_nil_of_length_eq_zero h0
    subst this
    refine (Tryd.slices_Clone_int_nil 0 0 w).mono fun e w' hh => ?_
    obtain ⟨rfl, rfl⟩ := hh
    exact ⟨⟨_, rfl, own_nil _ _ _ _⟩, Ext.refl _⟩
  · have hc := h.cells (g := g) rfl
    refine (Tryd.slices_Clone_int g 0 ys.length cap ys w (Nat.le_refl _) (by omega) fun j hj => ?_).mono fun e w' hh => ?_
    · have := hc j (.int .i64 (ys.getD j 0)) (by rw [List.getElem?_map, List.getD_eq_getElem?_getD, List.getElem?_eq_getElem hj]; rfl)
      rwa [add_mk] at this
    · obtain ⟨v', rfl, h1, h2, h3⟩ := hh
      refine ⟨⟨v', rfl, ?_⟩, h3⟩
      rw [List.take_of_length_le (Nat.le_refl _)] at h1
      exact h1
end Go.Proofs.YtmknpehjncpekaaDoor
