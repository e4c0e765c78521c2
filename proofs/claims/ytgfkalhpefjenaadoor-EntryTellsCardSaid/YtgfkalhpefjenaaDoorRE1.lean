/- The references' entries. -/
import Derived.Test.YtgfkalhpefjenaaDoorR6
import Derived.Test.YtgfkalhpefjenaaDoorUnpack
namespace Go.Proofs.YtgfkalhpefjenaaDoor
open Go.RowKit Go.WideShapes
set_option linter.unusedVariables false
attribute [local go_sem ↓] Go.wp_at_zero Go.wp_at_succ

theorem encK_ways (t : Int) (s : ByteArray) : (t < 0 ∧ encK ⟨t, s⟩ = 1) ∨ (0 ≤ t ∧ 1000000 < t ∧ encK ⟨t, s⟩ = 1) ∨ (0 ≤ t ∧ t ≤ 1000000 ∧ 200 < s.size ∧ encK ⟨t, s⟩ = 4) ∨ (0 ≤ t ∧ t ≤ 1000000 ∧ s.size ≤ 200 ∧ encK ⟨t, s⟩ = 0) := by
  by_cases h : (⟨t, s⟩ : Ent).ok
  · have hk : encK ⟨t, s⟩ = 0 := if_pos h
    obtain ⟨h0, h1, h2⟩ := h
    exact .inr (.inr (.inr ⟨h0, h1, h2, hk⟩))
  · have hk : encK ⟨t, s⟩ = Ent.err ⟨t, s⟩ := if_neg h
    unfold Ent.ok at h
    simp only at h
    by_cases h2 : t < 0 ∨ 1000000 < t
    · have he : Ent.err ⟨t, s⟩ = 1 := if_pos h2
      rw [he] at hk
      omega
    · have he : Ent.err ⟨t, s⟩ = 4 := if_neg h2
      rw [he] at hk
      omega

set_option maxRecDepth 100000 in
theorem REntry_any (t : Int) (s : ByteArray) (w : World) :
    Calls Tryd.prog 34 #[.agg #[.int .i64 t, .string s]] w fun e w' => e = .returned (.int .i64 (encK ⟨t, s⟩)) ∧ Ext w w' := by
  have HW := Lib.hid (encK_ways t s)
  generalize encK ⟨t, s⟩ = k at *
  go_enter Tryd.func34, Tryd.ntmps34
  go_upto_region 1 with (fail)
  have B0 : Bk (w.alloc (.cells #[.int .i64 t, .string s] 52)) w.heap.size 52 #[.int .i64 t, .string s] := Bk.at_ _ _ _ _ rfl
  have X0 : Ext w (w.alloc (.cells #[.int .i64 t, .string s] 52)) := by (repeat (with_reducible first | exact Ext.refl _ | assumption | refine Ext.drew ?_ | refine Ext.drewN ?_ _ | refine Ext.alloc ?_ _ | refine Ext.trans ?_ (by with_reducible assumption)))
  generalize w.alloc (.cells #[.int .i64 t, .string s] 52) = w0 at *
  have b0 := B0.cell 0
  have b1 := B0.cell 1
  rcases HW.out with ⟨h, rfl⟩ | ⟨h, h', rfl⟩ | ⟨h, h', h'', rfl⟩ | ⟨h, h', h'', rfl⟩
  all_goals
    go_wp2_with fail
    go_ret
    exact ⟨rfl, X0⟩
end Go.Proofs.YtgfkalhpefjenaaDoor
