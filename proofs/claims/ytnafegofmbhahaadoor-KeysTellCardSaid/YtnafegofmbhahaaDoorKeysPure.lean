/- Keys, plain: a proof leads to the root. -/
import Derived.Test.YtnafegofmbhahaaDoorKeys4
namespace Go.Proofs.YtnafegofmbhahaaDoor
open Go.RowKit
set_option linter.unusedVariables false

theorem upKV_snoc (l : List Int) (x : Int) (n : Nat) (s : Int) : upKV n s (l ++ [x]) = (if (n / 2 ^ l.length) % 2 = 0 then nodeL (upKV n s l) x else nodeL x (upKV n s l)) := by
  have h := upKV_take (l := l ++ [x]) (i := l.length) (x := x) (by simp) n s
  rw [List.take_of_length_le (by simp), List.take_left] at h
  exact h
theorem up_row (es : List Pr) (p : Nat) : ∀ k, upKV p (rowOf es p) (proofL es p k) = rowF es k (p / 2 ^ k)
  | 0 => by simp [proofL, upKV, rowF]
  | k + 1 => by
    rw [proofL_snoc, upKV_snoc, up_row es p k, proofL_len]
    have hq : p / 2 ^ (k + 1) = p / 2 ^ k / 2 := by rw [Nat.div_div_eq_div_mul, Nat.pow_succ]
    rw [hq]
    generalize p / 2 ^ k = q
    show _ = nodeL (rowF es k (2 * (q / 2))) (rowF es k (2 * (q / 2) + 1))
    unfold sibN
    by_cases h : q % 2 = 0
    · rw [if_pos h, if_pos h, show 2 * (q / 2) = q by omega]
    · rw [if_neg h, if_neg h, show 2 * (q / 2) = q - 1 by omega, show q - 1 + 1 = q by omega]
theorem up_root (es : List Pr) {p : Nat} (h : p < 256) : upKV p (rowOf es p) (proofL es p 8) = rowF es 8 0 := by
  rw [up_row, show (2 : Nat) ^ 8 = 256 from rfl, Nat.div_eq_of_lt h]
theorem proofL_vld (es : List Pr) (p k : Nat) : allV (proofL es p k) = true := by
  refine List.all_eq_true.2 fun x hx => ?_
  unfold proofL at hx
  rw [List.mem_map] at hx
  obtain ⟨i, _, rfl⟩ := hx
  exact vld_mk (rowF_bd es i _)
theorem root_vld (es : List Pr) : vld (krootV es) = true := by
  unfold krootV
  split
  · exact vld_mk (rowF_bd es 8 0)
  · rfl
theorem kRootK_self (v : Int) : kRootK v v = 0 := if_pos rfl
/-- what is proved, holds -/
theorem kchk_there {es : List Pr} {key value : ByteArray} (h : treeK es = 0) (hk : keyK key = 0) (hv : value.size ≤ 200) (hr : rowOf es (plcN key) = kleaf key value) : kchkK (krootV es) key value true (kprL es key) = 0 := by
  have h0 : kprK es key = 0 := (kprK_key h).trans hk
  unfold kchkK
  rw [if_neg (by rw [root_vld]; simp), if_neg (not_not_intro hk), if_neg (by omega), kprL_ok h0, if_neg (by rw [proofL_len]; simp), if_neg (by rw [proofL_vld]; simp), if_pos rfl, ← hr, up_root es (plcN_lt key)]
  unfold krootV
  rw [if_pos h, kRootK_self]
theorem kchk_gone {es : List Pr} {key : ByteArray} (h : treeK es = 0) (hk : keyK key = 0) (hr : rowOf es (plcN key) = leE) : kchkK (krootV es) key ⟨#[]⟩ false (kprL es key) = 0 := by
  have h0 : kprK es key = 0 := (kprK_key h).trans hk
  unfold kchkK
  rw [if_neg (by rw [root_vld]; simp), if_neg (not_not_intro hk), if_neg (show ¬ 200 < (⟨#[]⟩ : ByteArray).size by decide), kprL_ok h0, if_neg (by rw [proofL_len]; rintro (h | ⟨_, h⟩); exact h rfl; exact h rfl), if_neg (by rw [proofL_vld]; simp), if_neg (by simp), ← hr, up_root es (plcN_lt key)]
  unfold krootV
  rw [if_pos h, kRootK_self]
theorem kprL_len {es : List Pr} {key : ByteArray} (h : kprK es key = 0) : (kprL es key).length = 8 := by rw [kprL_ok h, proofL_len]

/-- of one pair -/
theorem tree_one (k v : ByteArray) : treeK [⟨k, v, false⟩] = if keyK k ≠ 0 then keyK k else if 200 < v.size then 4 else 0 := by
  show treeGo [] [⟨k, v, false⟩] = _
  have hp : pairK [] ⟨k, v, false⟩ = if keyK k ≠ 0 then keyK k else if 200 < v.size then 4 else 0 := by
    unfold pairK
    simp [ordB, usedOf]
  rw [treeGo, hp]
  simp only [treeGo]
  split
  · rfl
  · rename_i h
    simp
theorem row_one (k v : ByteArray) (i : Nat) : rowOf [⟨k, v, false⟩] i = if i = plcN k then kleaf k v else leE := by
  have := rowOf_snoc (es := []) (p := ⟨k, v, false⟩) rfl i
  rw [List.nil_append] at this
  exact this
end Go.Proofs.YtnafegofmbhahaaDoor
