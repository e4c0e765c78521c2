import Derived.Test.YtcgfdhgceokcnaaDoorJWalWhole6
import Derived.Test.YtcgfdhgceokcnaaDoorJWalWhole4
namespace Go.Proofs.YtcgfdhgceokcnaaDoor
open Go.RowKit Go.WideShapes
set_option linter.unusedVariables false
attribute [local go_sem ↓] Go.wp_at_zero Go.wp_at_succ

theorem info_int : (Tryd.prog.info? 3).map (fun i => (i.zero, i.size, i.bytes)) = some (some (.int .i64 0), 1, 8) := by kernel_rfl
/-- a result: a list of sums in new memory -/
def OwnI (w w' : World) (v : Value) (ys : List Int) : Prop := w'.ownsRow w.heap.size 3 1 v ys.length (ys.map (Value.int .i64))
theorem OwnI.ext {w w' w2 : World} {v : Value} {ys : List Int} (h : OwnI w w' v ys) (e : Ext w' w2) : OwnI w w2 v ys := own_ext h e
theorem OwnI.rd {w w' : World} {v : Value} {ys : List Int} (h : OwnI w w' v ys) : ∃ A c, v = .slice A ys.length c ∧ c ≤ maxLen ∧ Rd w' 1 A ys.length c (ys.map (Value.int .i64)) := by
  obtain ⟨A, c, h1, h2, h3, _⟩ := own_rd h
  exact ⟨A, c, h1, h2, h3⟩
theorem OwnI.mk {w w' : World} {v : Value} {n : Nat} {cs : List Value} {ys : List Int} (h : w'.ownsRow w.heap.size 3 1 v n cs) (hn : n = ys.length) (hc : cs = ys.map (Value.int .i64)) : OwnI w w' v ys := by
  subst hn; subst hc; exact h
theorem oneI (z : Int) : ∀ u ∈ [Value.int .i64 z], u.oneCell' = true := by intro u hu; simp at hu; subst hu; rfl

theorem last_of {ps : List Int} {k : Nat} (h : ps.length = k + 1) : ps[k]? = some (ps.getLastD 0) := by
  have hne : ps ≠ [] := by intro e; subst e; simp at h
  rw [List.getLastD_eq_getLast?, List.getLast?_eq_getElem?, h]
  simp
  rw [List.getElem?_eq_getElem (by omega)]
  rfl
theorem init_of {ps : List Int} {k : Nat} (h : ps.length = k + 1) : ps.take k = ps.dropLast := by
  rw [List.dropLast_eq_take, h]; rfl

end Go.Proofs.YtcgfdhgceokcnaaDoor

namespace Go.Proofs.YtcgfdhgceokcnaaDoor
open Go.RowKit Go.WideShapes
set_option linter.unusedVariables false

end Go.Proofs.YtcgfdhgceokcnaaDoor

namespace Go.Proofs.YtcgfdhgceokcnaaDoor
open Go.RowKit Go.WideShapes
set_option linter.unusedVariables false

theorem half_done {n q : Nat} (h1 : 1 ≤ n) (hn : n ≤ 4096) (hq : ∃ j, q = 2 ^ j) (h : q < n ∨ q = 1) (h' : n ≤ 2 * q) : half n = q := by
  obtain ⟨j, rfl⟩ := hq
  by_cases h2 : 2 ≤ n
  · have : 2 ^ j < n := by
      rcases h with h | h
      · exact h
      · omega
    exact half_eq h2 hn this (by rw [Nat.pow_succ]; omega)
  · obtain rfl : n = 1 := by omega
    have e1 : half 1 = 1 := by decide
    rw [e1]
    rcases h with h | h
    · have := Nat.one_le_two_pow (n := j); omega
    · exact h.symm

end Go.Proofs.YtcgfdhgceokcnaaDoor
