import Derived.Test.YtelcabjhbgkfmaaGreatDoorLeafs
import Derived.Test.YtelcabjhbgkfmaaGreatDoorDig
namespace Go.Proofs.YtelcabjhbgkfmaaGreatDoor
open Go.RowKit
set_option linter.unusedVariables false
attribute [local go_sem ↓] Go.wp_at_zero Go.wp_at_succ

theorem info_ent : (Tryz.prog.info? 64).map (fun i => (i.zero, i.size, i.bytes)) = some (some (.agg #[.int .i64 0, .string ⟨#[]⟩]), 2, 24) := by kernel_rfl
def someE (j : Nat) : Ent := ⟨(j : Int), digB j⟩
def someL (n : Nat) : List Ent := (List.range n).map someE
theorem someL_snoc (n : Nat) : someL (n + 1) = someL n ++ [someE n] := by simp [someL, List.range_succ]
theorem someL_len (n : Nat) : (someL n).length = n := by simp [someL]
theorem someL_ok (n : Nat) (h : n ≤ 200) : entsOk (someL n) := by
  refine ⟨by rw [someL_len]; exact h, fun e he => ?_⟩
  unfold someL at he
  rw [List.mem_map] at he
  obtain ⟨j, hj, rfl⟩ := he
  rw [List.mem_range] at hj
  have := digB_size j j (Nat.le_refl _)
  exact ⟨by show (0 : Int) ≤ (j : Int); omega, by show (j : Int) ≤ 1000000; omega, by show (digB j).size ≤ 200; omega⟩
theorem oneE (e : Ent) : ∀ u ∈ e.cells, u.oneCell' = true := by intro u hu; simp [Ent.cells] at hu; rcases hu with rfl | rfl <;> rfl

end Go.Proofs.YtelcabjhbgkfmaaGreatDoor
