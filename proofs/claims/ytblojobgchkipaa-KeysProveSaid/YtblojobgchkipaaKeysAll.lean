/- Keys, plain: all pairs of a tree that was made. -/
import Derived.Test.YtblojobgchkipaaKeysClash
namespace Go.Proofs.Ytblojobgchkipaa
open Go.RowKit
set_option linter.unusedVariables false

theorem treeGo_all {es : List Pr} (h : treeGo [] es = 0) : ∀ j, j ≤ es.length → treeGo (es.take j) (es.drop j) = 0
  | 0, _ => h
  | j + 1, hj => by
    have h1 := treeGo_all h j (by omega)
    rw [treeGo_step (List.getElem?_eq_getElem (by omega : j < es.length))] at h1
    split at h1
    · rename_i h2; exact absurd h1 h2
    · exact h1
theorem rowOf_first {es : List Pr} {j : Nat} {p : Pr} (h : es[j]? = some p) (hu : usedOf (es.take j) (plcN p.key) = false) : rowOf es (plcN p.key) = kleaf p.key p.value := by
  obtain ⟨hj, hp⟩ := List.getElem?_eq_some_iff.1 h
  have e : es = es.take j ++ p :: es.drop (j + 1) := by rw [← hp, ← List.drop_eq_getElem_cons hj, List.take_append_drop]
  have hf : (es.take j).find? (fun q => plcN q.key == plcN p.key) = none := by
    rw [List.find?_eq_none]
    intro x hx h2
    have h3 : usedOf (es.take j) (plcN p.key) = true := List.any_eq_true.2 ⟨x, hx, h2⟩
    rw [hu] at h3; cases h3
  have hfe : es.find? (fun q => plcN q.key == plcN p.key) = some p := by
    have h5 := congrArg (fun l : List Pr => l.find? (fun q => plcN q.key == plcN p.key)) e
    refine h5.trans ?_
    show List.find? _ _ = _
    rw [List.find?_append, hf, Option.none_or, List.find?_cons_of_pos (by simp)]
  unfold rowOf
  rw [hfe]
theorem tree_all {es : List Pr} (h : treeK es = 0) {j : Nat} {p : Pr} (hj : es[j]? = some p) : keyK p.key = 0 ∧ p.value.size ≤ 200 ∧ rowOf es (plcN p.key) = kleaf p.key p.value := by
  unfold treeK at h
  split at h
  · cases h
  · have h1 := treeGo_all h j (by have := (List.getElem?_eq_some_iff.1 hj).1; omega)
    rw [treeGo_step hj] at h1
    split at h1
    · rename_i h2; exact absurd h1 h2
    · rename_i h2
      obtain ⟨a, b, _, _, e⟩ := pairK_zero (Decidable.byContradiction h2)
      exact ⟨a, b, rowOf_first hj e⟩
theorem rowOf_none {es : List Pr} {i : Nat} (h : ∀ (j : Nat) (p : Pr), es[j]? = some p → plcN p.key ≠ i) : rowOf es i = leE := by
  refine rowOf_free ?_
  cases hu : usedOf es i with
  | false => rfl
  | true =>
    obtain ⟨x, hx, h2⟩ := List.any_eq_true.1 hu
    obtain ⟨j, hj⟩ := List.getElem?_of_mem hx
    exact absurd (by simpa using h2) (h j x hj)
/-- what a check of another value says -/
theorem kchk_other {es : List Pr} {key value v : ByteArray} (h : treeK es = 0) (hk : keyK key = 0) (hv : value.size ≤ 200) (hr : rowOf es (plcN key) = kleaf key v) :
    kchkK (krootV es) key value true (kprL es key) = kRootK (upKV (plcN key) (kleaf key value) (kprL es key)) (upKV (plcN key) (kleaf key v) (kprL es key)) := by
  have h0 : kprK es key = 0 := (kprK_key h).trans hk
  unfold kchkK
  rw [if_neg (by rw [root_vld]; simp), if_neg (not_not_intro hk), if_neg (by omega), kprL_ok h0, if_neg (by rw [proofL_len]; simp), if_neg (by rw [proofL_vld]; simp), if_pos rfl, ← hr, up_root es (plcN_lt key)]
  unfold krootV
  rw [if_pos h]
theorem kprL_vld {es : List Pr} {key : ByteArray} (h : kprK es key = 0) : allV (kprL es key) = true := by rw [kprL_ok h, proofL_vld]
end Go.Proofs.Ytblojobgchkipaa
