/- Plain laws: sums, trees, no program in sight. -/
import Derived.Below
import Derived.Lib.BitFns
import Derived.Lib.ItoaNum
import Derived.WalkKit
import Derived.Laws.IdiomStrings
import Derived.Deep.Draws
import Derived.Deep.QuietTactic
import Derived.BigQuiet
import Derived.Laws.Rows
import Derived.Laws.OwnMore
import Derived.Lib.Hide
import Derived.ProofKit
import Derived.OpenShut
import Derived.ShutString
import Derived.ChangeOld
import Derived.SizedLaws
import Derived.Deep.Slices
import Derived.Deep.Fields
import Derived.Lib.SmallJoins
import Derived.Test.YtnphbkjkeipmmaaGreatDoorRows
namespace Go.Proofs.YtnphbkjkeipmmaaGreatDoor
set_option linter.unusedVariables false

/-- one byte into a sum -/
def sumStep (n : Int) (c : UInt8) : Int := (n * 131 + (c.toNat : Int) + 1) % 2147483647
def sumFrom (n : Int) (l : List UInt8) : Int := l.foldl sumStep n
def sumL (l : List UInt8) : Int := sumFrom 5381 l
theorem sumStep_bd (n : Int) (c : UInt8) : 0 ≤ sumStep n c ∧ sumStep n c < 2147483647 := by
  unfold sumStep; omega
theorem sumFrom_snoc (n : Int) (l : List UInt8) (c : UInt8) : sumFrom n (l ++ [c]) = sumStep (sumFrom n l) c := by
  simp [sumFrom]
theorem sumFrom_append (n : Int) (l m : List UInt8) : sumFrom n (l ++ m) = sumFrom (sumFrom n l) m := by
  simp [sumFrom]
theorem sumFrom_bd (l : List UInt8) : ∀ n : Int, 0 ≤ n → n < 2147483647 → 0 ≤ sumFrom n l ∧ sumFrom n l < 2147483647 := by
  induction l with
  | nil => intro n h0 h1; exact ⟨h0, h1⟩
  | cons c l ih => intro n _ _; exact ih _ (sumStep_bd n c).1 (sumStep_bd n c).2
theorem sumL_bd (l : List UInt8) : 0 ≤ sumL l ∧ sumL l < 2147483647 := sumFrom_bd l 5381 (by omega) (by omega)
theorem sumL_snoc (l : List UInt8) (c : UInt8) : sumL (l ++ [c]) = sumStep (sumL l) c := sumFrom_snoc _ _ _
theorem take_snoc (l : List UInt8) (k : Nat) (h : k < l.length) : l.take (k + 1) = l.take k ++ [l[k]] := by
  rw [List.take_succ_eq_append_getElem h]
theorem sumL_take (l : List UInt8) (k : Nat) (h : k < l.length) : sumL (l.take (k + 1)) = sumStep (sumL (l.take k)) l[k] := by
  rw [take_snoc l k h, sumL_snoc]

def byteOf (n : Int) : UInt8 := UInt8.ofNat n.toNat
theorem byteOf_toNat (c : UInt8) : byteOf (c.toNat : Int) = c := by simp [byteOf]
theorem toNat_byteOf (n : Int) (h0 : 0 ≤ n) (h1 : n < 256) : ((byteOf n).toNat : Int) = n := by
  unfold byteOf
  rw [UInt8.toNat_ofNat']
  omega

/-- four bytes of a number -/
def fourB (n : Int) : List UInt8 := [byteOf (n / 16777216 % 256), byteOf (n / 65536 % 256), byteOf (n / 256 % 256), byteOf (n % 256)]
/-- the bytes of a node -/
def nodeB (a b : Int) : List UInt8 := 1 :: (fourB a ++ fourB b)
def nodeL (a b : Int) : Int := sumL (nodeB a b)
theorem nodeL_bd (a b : Int) : 0 ≤ nodeL a b ∧ nodeL a b < 2147483647 := sumL_bd _
theorem fourB_len (n : Int) : (fourB n).length = 4 := rfl
theorem nodeB_len (a b : Int) : (nodeB a b).length = 9 := rfl
/-- a leaf's sum -/
def leafL (l : List UInt8) : Int := sumL (0 :: l)
/-- is a number a sum? -/
def vld (n : Int) : Bool := decide (0 ≤ n ∧ n < 2147483647)
theorem vld_true {n : Int} (h : vld n = true) : 0 ≤ n ∧ n < 2147483647 := of_decide_eq_true h
theorem vld_false {n : Int} (h : vld n = false) : ¬ (0 ≤ n ∧ n < 2147483647) := of_decide_eq_false h
theorem vld_mk {n : Int} (h : 0 ≤ n ∧ n < 2147483647) : vld n = true := decide_eq_true h
theorem vld_not {n : Int} (h : ¬ (0 ≤ n ∧ n < 2147483647)) : vld n = false := decide_eq_false h

def allV (xs : List Int) : Bool := xs.all vld
theorem allV_get {xs : List Int} (h : allV xs = true) {j : Nat} {z : Int} (hz : xs[j]? = some z) : vld z = true :=
  List.all_eq_true.1 h z (List.mem_of_getElem? hz)
theorem allV_not {xs : List Int} (h : allV xs = false) : ∃ (j : Nat) (z : Int), xs[j]? = some z ∧ vld z = false ∧ ∀ (i : Nat) (u : Int), i < j → xs[i]? = some u → vld u = true := by
  induction xs with
  | nil => simp [allV] at h
  | cons z xs ih =>
    by_cases hz : vld z = true
    · have h' : allV xs = false := by simpa [allV, hz] using h
      obtain ⟨j, u, h1, h2, h3⟩ := ih h'
      refine ⟨j + 1, u, by simpa using h1, h2, fun i v hi hv => ?_⟩
      rcases i with _ | i
      · simp at hv; subst hv; exact hz
      · exact h3 i v (by omega) (by simpa using hv)
    · exact ⟨0, z, rfl, by simpa using hz, fun i u hi => absurd hi (by omega)⟩


/-! ### Trees -/
/-- the greatest power of two below a number -/
def half (n : Nat) : Nat := 2 ^ (Lib.bitLen (n - 1) - 1)
theorem half_bitLen (n : Nat) (h2 : 2 ≤ n) (hn : n ≤ 4096) : 1 ≤ Lib.bitLen (n - 1) ∧ Lib.bitLen (n - 1) ≤ 12 ∧ half n ≤ n - 1 ∧ n - 1 < 2 * half n := by
  have h64 : n - 1 < 2 ^ 64 := by omega
  obtain ⟨a, b, c⟩ := Lib.bitLenAux_bounds 64 (n - 1) h64 (by omega)
  have d := Lib.bitLen_le (n - 1) 12 (by omega) (by omega)
  refine ⟨a, d, b, ?_⟩
  have e : 2 * half n = 2 ^ Lib.bitLen (n - 1) := by
    unfold half
    rw [Nat.mul_comm, ← Nat.pow_succ]
    congr 1
    have : 1 ≤ Lib.bitLen (n - 1) := a
    omega
  rw [e]
  exact c
theorem half_pos (n : Nat) : 1 ≤ half n := Nat.one_le_two_pow
theorem half_lt {n : Nat} (h2 : 2 ≤ n) (hn : n ≤ 4096) : half n < n := by have := half_bitLen n h2 hn; omega
theorem half_le {n : Nat} (h2 : 2 ≤ n) (hn : n ≤ 4096) : n ≤ 2 * half n := by have := half_bitLen n h2 hn; omega
theorem half_eq {n k : Nat} (h2 : 2 ≤ n) (hn : n ≤ 4096) (h : 2 ^ k < n) (h' : n ≤ 2 ^ (k + 1)) : half n = 2 ^ k := by
  obtain ⟨a, b, c, d⟩ := half_bitLen n h2 hn
  unfold half at c d ⊢
  generalize Lib.bitLen (n - 1) - 1 = j at *
  rcases Nat.lt_trichotomy j k with h1 | h1 | h1
  · have : 2 ^ (j + 1) ≤ 2 ^ k := Nat.pow_le_pow_right (by omega) h1
    rw [Nat.pow_succ] at this
    omega
  · rw [h1]
  · have : 2 ^ (k + 1) ≤ 2 ^ j := Nat.pow_le_pow_right (by omega) h1
    omega

theorem allV_append (a b : List Int) : allV (a ++ b) = (allV a && allV b) := by simp [allV]
theorem allV_take {xs : List Int} (h : allV xs = true) (k : Nat) : allV (xs.take k) = true := by
  have := allV_append (xs.take k) (xs.drop k)
  rw [List.take_append_drop, h] at this
  exact (Bool.and_eq_true_iff.1 this.symm).1
theorem allV_drop {xs : List Int} (h : allV xs = true) (k : Nat) : allV (xs.drop k) = true := by
  have := allV_append (xs.take k) (xs.drop k)
  rw [List.take_append_drop, h] at this
  exact (Bool.and_eq_true_iff.1 this.symm).2
theorem vld_node (a b : Int) : vld (nodeL a b) = true := vld_mk (nodeL_bd a b)
theorem vld_sum (l : List UInt8) : vld (sumL l) = true := vld_mk (sumL_bd l)

/-- the root of leafs -/
def ofL (xs : List Int) : Int :=
  if h : 2 ≤ xs.length ∧ half xs.length < xs.length then nodeL (ofL (xs.take (half xs.length))) (ofL (xs.drop (half xs.length))) else xs.headD (sumL [])
termination_by xs.length
decreasing_by
  · rw [List.length_take]; omega
  · rw [List.length_drop]; have := half_pos xs.length; omega
theorem ofL_nil : ofL [] = sumL [] := by rw [ofL, dif_neg (by simp)]; rfl
theorem ofL_one (x : Int) : ofL [x] = x := by rw [ofL, dif_neg (by simp)]; rfl
theorem ofL_node {xs : List Int} (h2 : 2 ≤ xs.length) (hn : xs.length ≤ 4096) : ofL xs = nodeL (ofL (xs.take (half xs.length))) (ofL (xs.drop (half xs.length))) := by
  rw [ofL, dif_pos ⟨h2, half_lt h2 hn⟩]
theorem vld_ofL {xs : List Int} (h : allV xs = true) (hn : xs.length ≤ 4096) : vld (ofL xs) = true := by
  match xs, h, hn with
  | [], _, _ => rw [ofL_nil]; exact vld_sum _
  | [x], h, _ => rw [ofL_one]; exact allV_get h (j := 0) rfl
  | x :: y :: l, _, hn => rw [ofL_node (by simp) hn]; exact vld_node _ _

/-! ### Proofs -/
/-- how long a proof is -/
def stepsN (i n : Nat) : Nat :=
  if h : 2 ≤ n ∧ half n < n then (if i < half n then stepsN i (half n) + 1 else stepsN (i - half n) (n - half n) + 1) else 0
termination_by n
decreasing_by
  · exact h.2
  · have := half_pos n; omega
theorem stepsN_left {i n : Nat} (h2 : 2 ≤ n) (hn : n ≤ 4096) (hi : i < half n) : stepsN i n = stepsN i (half n) + 1 := by
  rw [stepsN, dif_pos ⟨h2, half_lt h2 hn⟩, if_pos hi]
theorem stepsN_right {i n : Nat} (h2 : 2 ≤ n) (hn : n ≤ 4096) (hi : ¬ i < half n) : stepsN i n = stepsN (i - half n) (n - half n) + 1 := by
  rw [stepsN, dif_pos ⟨h2, half_lt h2 hn⟩, if_neg hi]
theorem stepsN_one {n : Nat} (i : Nat) (h : ¬ 2 ≤ n) : stepsN i n = 0 := by rw [stepsN, dif_neg (by omega)]
theorem stepsN_lt (N : Nat) : ∀ i n : Nat, n ≤ N → n ≤ 4096 → 1 ≤ n → stepsN i n < n := by
  induction N with
  | zero => intro i n h _ h1; omega
  | succ N ih =>
    intro i n h hn h1
    by_cases h2 : 2 ≤ n
    · have := half_lt h2 hn
      have := half_pos n
      by_cases hi : i < half n
      · rw [stepsN_left h2 hn hi]; have := ih i (half n) (by omega) (by omega) (by omega); omega
      · rw [stepsN_right h2 hn hi]; have := ih (i - half n) (n - half n) (by omega) (by omega) (by omega); omega
    · rw [stepsN_one i h2]; omega

/-- the proof of a leaf -/
def wayL (xs : List Int) (i : Nat) : List Int :=
  if h : 2 ≤ xs.length ∧ half xs.length < xs.length then
    (if i < half xs.length then wayL (xs.take (half xs.length)) i ++ [ofL (xs.drop (half xs.length))] else wayL (xs.drop (half xs.length)) (i - half xs.length) ++ [ofL (xs.take (half xs.length))])
  else []
termination_by xs.length
decreasing_by
  · rw [List.length_take]; omega
  · rw [List.length_drop]; have := half_pos xs.length; omega
theorem wayL_left {xs : List Int} {i : Nat} (h2 : 2 ≤ xs.length) (hn : xs.length ≤ 4096) (hi : i < half xs.length) : wayL xs i = wayL (xs.take (half xs.length)) i ++ [ofL (xs.drop (half xs.length))] := by
  rw [wayL, dif_pos ⟨h2, half_lt h2 hn⟩, if_pos hi]
theorem wayL_right {xs : List Int} {i : Nat} (h2 : 2 ≤ xs.length) (hn : xs.length ≤ 4096) (hi : ¬ i < half xs.length) : wayL xs i = wayL (xs.drop (half xs.length)) (i - half xs.length) ++ [ofL (xs.take (half xs.length))] := by
  rw [wayL, dif_pos ⟨h2, half_lt h2 hn⟩, if_neg hi]
theorem wayL_one {xs : List Int} {i : Nat} (h2 : ¬ 2 ≤ xs.length) : wayL xs i = [] := by rw [wayL, dif_neg (by omega)]
theorem wayL_len (N : Nat) : ∀ (xs : List Int) (i : Nat), xs.length ≤ N → xs.length ≤ 4096 → (wayL xs i).length = stepsN i xs.length := by
  induction N with
  | zero =>
    intro xs i h hn
    rw [wayL_one (by omega), stepsN_one i (by omega)]; rfl
  | succ N ih =>
    intro xs i h hn
    by_cases h2 : 2 ≤ xs.length
    · have h3 := half_lt h2 hn
      have h4 := half_pos xs.length
      by_cases hi : i < half xs.length
      · rw [wayL_left h2 hn hi, stepsN_left h2 hn hi, List.length_append, ih _ _ (by rw [List.length_take]; omega) (by rw [List.length_take]; omega), List.length_take, Nat.min_eq_left (by omega)]; rfl
      · rw [wayL_right h2 hn hi, stepsN_right h2 hn hi, List.length_append, ih _ _ (by rw [List.length_drop]; omega) (by rw [List.length_drop]; omega), List.length_drop]; rfl
    · rw [wayL_one h2, stepsN_one i h2]; rfl

/-- the root that comes of a leaf and a proof -/
def upL (i n : Nat) (s : Int) (p : List Int) : Int :=
  if h : 2 ≤ n ∧ half n < n then
    (if i < half n then nodeL (upL i (half n) s p.dropLast) (p.getLastD 0) else nodeL (p.getLastD 0) (upL (i - half n) (n - half n) s p.dropLast))
  else s
termination_by n
decreasing_by
  · exact h.2
  · have := half_pos n; omega
theorem upL_left {i n : Nat} {s : Int} {p : List Int} (h2 : 2 ≤ n) (hn : n ≤ 4096) (hi : i < half n) : upL i n s p = nodeL (upL i (half n) s p.dropLast) (p.getLastD 0) := by
  rw [upL, dif_pos ⟨h2, half_lt h2 hn⟩, if_pos hi]
theorem upL_right {i n : Nat} {s : Int} {p : List Int} (h2 : 2 ≤ n) (hn : n ≤ 4096) (hi : ¬ i < half n) : upL i n s p = nodeL (p.getLastD 0) (upL (i - half n) (n - half n) s p.dropLast) := by
  rw [upL, dif_pos ⟨h2, half_lt h2 hn⟩, if_neg hi]
theorem upL_one {i n : Nat} {s : Int} {p : List Int} (h : ¬ 2 ≤ n) : upL i n s p = s := by rw [upL, dif_neg (by omega)]
theorem vld_upL {i n : Nat} {s : Int} {p : List Int} (hs : vld s = true) (hn : n ≤ 4096) : vld (upL i n s p) = true := by
  by_cases h2 : 2 ≤ n
  · by_cases hi : i < half n
    · rw [upL_left h2 hn hi]; exact vld_node _ _
    · rw [upL_right h2 hn hi]; exact vld_node _ _
  · rw [upL_one h2]; exact hs
/-- what is there is proved -/
theorem up_way (N : Nat) : ∀ (xs : List Int) (i : Nat) (z : Int), xs.length ≤ N → xs.length ≤ 4096 → xs[i]? = some z → upL i xs.length z (wayL xs i) = ofL xs := by
  induction N with
  | zero =>
    intro xs i z h hn hz
    have : xs = [] := List.eq_nil_of_length_eq_zero (by omega)
    subst this
    simp at hz
  | succ N ih =>
    intro xs i z h hn hz
    have hil : i < xs.length := (List.getElem?_eq_some_iff.1 hz).1
    by_cases h2 : 2 ≤ xs.length
    · have h3 := half_lt h2 hn
      have h4 := half_pos xs.length
      by_cases hi : i < half xs.length
      · rw [wayL_left h2 hn hi, upL_left h2 hn hi, List.dropLast_concat, ofL_node h2 hn]
        have := ih (xs.take (half xs.length)) i z (by rw [List.length_take]; omega) (by rw [List.length_take]; omega) (by rw [List.getElem?_take, if_pos hi]; exact hz)
        rw [List.length_take, Nat.min_eq_left (by omega)] at this
        rw [this]
        simp
      · rw [wayL_right h2 hn hi, upL_right h2 hn hi, List.dropLast_concat, ofL_node h2 hn]
        have := ih (xs.drop (half xs.length)) (i - half xs.length) z (by rw [List.length_drop]; omega) (by rw [List.length_drop]; omega) (by rw [List.getElem?_drop]; rw [show half xs.length + (i - half xs.length) = i by omega]; exact hz)
        rw [List.length_drop] at this
        rw [this]
        simp
    · have hx : xs.length = 1 := by omega
      obtain ⟨x, rfl⟩ := List.length_eq_one_iff.1 hx
      have : i = 0 := by simpa using hil
      subst this
      rw [upL_one h2, ofL_one]
      simpa using hz.symm

/-- what is wrong with a proof -/
def pcheck (want n i s : Int) (p : List Int) : Int :=
  if ¬ (0 ≤ i ∧ i < n ∧ n ≤ 200) then 1
  else if ¬ (vld want = true ∧ vld s = true ∧ allV p = true) then 1
  else if p.length ≠ stepsN i.toNat n.toNat then 3
  else if upL i.toNat n.toNat s p ≠ want then 8
  else 0
theorem pcheck_range {want n i s : Int} {p : List Int} (h : ¬ (0 ≤ i ∧ i < n ∧ n ≤ 200)) : pcheck want n i s p = 1 := by unfold pcheck; rw [if_pos h]
theorem pcheck_vld {want n i s : Int} {p : List Int} (h : 0 ≤ i ∧ i < n ∧ n ≤ 200) (h2 : ¬ (vld want = true ∧ vld s = true ∧ allV p = true)) : pcheck want n i s p = 1 := by
  unfold pcheck; rw [if_neg (not_not_intro h), if_pos h2]
theorem pcheck_len {want n i s : Int} {p : List Int} (h : 0 ≤ i ∧ i < n ∧ n ≤ 200) (h2 : vld want = true ∧ vld s = true ∧ allV p = true) (h3 : p.length ≠ stepsN i.toNat n.toNat) : pcheck want n i s p = 3 := by
  unfold pcheck; rw [if_neg (not_not_intro h), if_neg (not_not_intro h2), if_pos h3]
theorem pcheck_root {want n i s : Int} {p : List Int} (h : 0 ≤ i ∧ i < n ∧ n ≤ 200) (h2 : vld want = true ∧ vld s = true ∧ allV p = true) (h3 : p.length = stepsN i.toNat n.toNat) (h4 : upL i.toNat n.toNat s p ≠ want) : pcheck want n i s p = 8 := by
  unfold pcheck; rw [if_neg (not_not_intro h), if_neg (not_not_intro h2), if_neg (not_not_intro h3), if_pos h4]
theorem pcheck_ok {want n i s : Int} {p : List Int} (h : 0 ≤ i ∧ i < n ∧ n ≤ 200) (h2 : vld want = true ∧ vld s = true ∧ allV p = true) (h3 : p.length = stepsN i.toNat n.toNat) (h4 : upL i.toNat n.toNat s p = want) : pcheck want n i s p = 0 := by
  unfold pcheck; rw [if_neg (not_not_intro h), if_neg (not_not_intro h2), if_neg (not_not_intro h3), if_neg (not_not_intro h4)]
theorem pcheck_zero {want n i s : Int} {p : List Int} (h : pcheck want n i s p = 0) : (0 ≤ i ∧ i < n ∧ n ≤ 200) ∧ (vld want = true ∧ vld s = true ∧ allV p = true) ∧ p.length = stepsN i.toNat n.toNat ∧ upL i.toNat n.toNat s p = want := by
  by_cases a : 0 ≤ i ∧ i < n ∧ n ≤ 200
  · by_cases b : vld want = true ∧ vld s = true ∧ allV p = true
    · by_cases c : p.length = stepsN i.toNat n.toNat
      · by_cases d : upL i.toNat n.toNat s p = want
        · exact ⟨a, b, c, d⟩
        · rw [pcheck_root a b c d] at h; cases h
      · rw [pcheck_len a b c] at h; cases h
    · rw [pcheck_vld a b] at h; cases h
  · rw [pcheck_range a] at h; cases h
theorem allV_way (N : Nat) : ∀ (xs : List Int) (i : Nat), xs.length ≤ N → xs.length ≤ 4096 → allV xs = true → allV (wayL xs i) = true := by
  induction N with
  | zero => intro xs i h hn hv; rw [wayL_one (by omega)]; rfl
  | succ N ih =>
    intro xs i h hn hv
    by_cases h2 : 2 ≤ xs.length
    · have h3 := half_lt h2 hn
      have h4 := half_pos xs.length
      by_cases hi : i < half xs.length
      · rw [wayL_left h2 hn hi, allV_append, ih _ _ (by rw [List.length_take]; omega) (by rw [List.length_take]; omega) (allV_take hv _)]
        simp [allV, vld_ofL (allV_drop hv (half xs.length)) (by rw [List.length_drop]; omega)]
      · rw [wayL_right h2 hn hi, allV_append, ih _ _ (by rw [List.length_drop]; omega) (by rw [List.length_drop]; omega) (allV_drop hv _)]
        simp [allV, vld_ofL (allV_take hv (half xs.length)) (by rw [List.length_take]; omega)]
    · rw [wayL_one h2]; rfl
end Go.Proofs.YtnphbkjkeipmmaaGreatDoor

/- Small laws on worlds and bytes, over any program. -/
namespace Go.Proofs.YtnphbkjkeipmmaaGreatDoor
set_option linter.unusedVariables false
open Go.RowKit

theorem ba_ext {a b : ByteArray} (h : a.data.toList = b.data.toList) : a = b := by
  cases a; cases b
  congr 1
  exact Array.ext' h
theorem ret_int {k : IntKind} {a b : Int} (h : a = b) : Ending.returned (.int k a) = .returned (.int k b) := by rw [h]
theorem ret_str {a b : ByteArray} (h : a = b) : Ending.returned (.string a) = .returned (.string b) := by rw [h]
theorem ret_bool {a b : Bool} (h : a = b) : Ending.returned (.bool a) = .returned (.bool b) := by rw [h]
theorem ret_two {a b c d : Value} (h : a = c) (k : b = d) : Ending.returned (.tuple #[a, b]) = .returned (.tuple #[c, d]) := by rw [h, k]
theorem ret_three {a b c a' b' c' : Value} (h : a = a') (k : b = b') (l : c = c') : Ending.returned (.tuple #[a, b, c]) = .returned (.tuple #[a', b', c']) := by rw [h, k, l]
theorem ret_val {a b : Value} (h : a = b) : Ending.returned a = .returned b := by rw [h]

/-! ### What a call leaves: new blocks alone -/
def Ext (w w' : World) : Prop := Below w.heap.size w w'
section
variable {a b c w w' : World}
theorem Ext.refl (w : World) : Ext w w := Below.refl _ _
theorem Ext.size (h : Ext a b) : a.heap.size ≤ b.heap.size := Below.size h
theorem Ext.trans (h : Ext a b) (k : Ext b c) : Ext a c := Below.trans h (Below.mono k h.size)
theorem Ext.alloc (h : Ext a b) (o : Obj) : Ext a (b.alloc o) := Below.alloc h h.size o
theorem Ext.drew (h : Ext a b) : Ext a b.drew := Below.drew h
theorem Ext.drewN (h : Ext a b) (n : Nat) : Ext a (b.drewN n) := ⟨h.os, h.tape, h.output, h.size, h.block⟩
theorem Ext.setCell (h : Ext a b) {p : Addr} (hp : a.heap.size ≤ p.block) (u : Value) : Ext a (b.setCell p u) := Below.setCell h hp u
theorem Ext.grown (h : Ext a b) {row : Option Nat} (hg : b.grownBy c row) (hr : ∀ k, row = some k → a.heap.size ≤ k) : Ext a c := Below.grown h hg h.size hr
theorem Ext.cell (h : Ext a b) {p : Addr} (hp : p.block < a.heap.size) : b.cell? p = a.cell? p := Below.cell h hp
theorem Ext.frozen (h : Ext a b) {p : Addr} (hp : p.block < a.heap.size) : b.frozen? p = a.frozen? p := Below.frozen h hp
theorem Ext.below (h : Ext a b) : Below a.heap.size a b := h
theorem Ext.rules (h : Ext a b) : (∀ x o, x < a.heap.size → b.cell? ⟨x, o, none⟩ = a.cell? ⟨x, o, none⟩) ∧ (∀ x o, x < a.heap.size → b.frozen? ⟨x, o, none⟩ = a.frozen? ⟨x, o, none⟩) :=
  ⟨fun x o hx => h.cell (p := ⟨x, o, none⟩) hx, fun x o hx => h.frozen (p := ⟨x, o, none⟩) hx⟩
theorem Ext.lt (h : Ext a b) {n : Nat} (hn : n < a.heap.size) : n < b.heap.size := Nat.lt_of_lt_of_le hn h.size
end

/-! ### A block that is known whole -/
def Bk (w : World) (g : Nat) (t : TypeId) (cs : Array Value) : Prop := w.heap[g]? = some (.cells cs t (0, 0))
section
variable {w w' : World} {g : Nat} {t : TypeId} {cs : Array Value}
theorem Bk.lt (h : Bk w g t cs) : g < w.heap.size := by
  rcases Nat.lt_or_ge g w.heap.size with hlt | hge
  · exact hlt
  · unfold Bk at h; rw [Array.getElem?_eq_none hge] at h; cases h
theorem Bk.cell (h : Bk w g t cs) (i : Nat) : w.cell? ⟨g, i, none⟩ = cs[i]? := cell_of_row w g i cs t (0, 0) h
theorem Bk.frozen (h : Bk w g t cs) (i : Nat) : w.frozen? ⟨g, i, none⟩ = false := by
  unfold Bk at h
  simp [World.frozen?, h]
theorem Bk.at_ (w : World) (t : TypeId) (cs : Array Value) (n : Nat) (hn : n = w.heap.size) : Bk (w.alloc (.cells cs t)) n t cs := by subst hn; exact heap_alloc_new w _
theorem Bk.drew (h : Bk w g t cs) : Bk w.drew g t cs := h
theorem Bk.drewN (h : Bk w g t cs) (n : Nat) : Bk (w.drewN n) g t cs := h
theorem Bk.alloc (h : Bk w g t cs) (o : Obj) : Bk (w.alloc o) g t cs := (Below.heap_alloc w o g h.lt).trans h
theorem Bk.ext (h : Bk w g t cs) (e : Ext w w') : Bk w' g t cs := (Below.block e g h.lt).trans h
theorem Bk.set_ (h : Bk w g t cs) (i : Nat) (u : Value) : Bk (w.setCell ⟨g, i, none⟩ u) g t (cs.setIfInBounds i u) := by
  unfold Bk at h ⊢
  simp [World.setCell, Array.getElem?_modify, h]
theorem Bk.far (h : Bk w g t cs) {p : Addr} (hp : g ≠ p.block) (u : Value) : Bk (w.setCell p u) g t cs := (Below.heap_setCell w p u g hp).trans h
end

/-! ### A slice that reads as a list of cells -/
theorem blk_add (a : Addr) (n : Nat) : (a.add n).block = a.block := by unfold Addr.add; split <;> rfl
theorem add_add' (a : Addr) (i j : Nat) : (a.add i).add j = a.add (i + j) := by
  unfold Addr.add
  by_cases hi : i = 0 <;> by_cases hj : j = 0 <;> simp [hi, hj, Nat.add_assoc]
theorem add_mk (b o i : Nat) : (⟨b, o, none⟩ : Addr).add i = ⟨b, o + i, none⟩ := by
  unfold Addr.add; split <;> simp_all

/-- slice value '.slice A n c' holds the cells xs ('size' a piece), all of them old -/
def Rd (w : World) (size : Nat) (A : Option Addr) (n c : Nat) (xs : List Value) : Prop :=
  xs.length = n * size ∧ n ≤ c ∧ (0 < n → ∃ ad, A = some ad ∧ ad.block < w.heap.size ∧ ∀ j u, xs[j]? = some u → w.cell? (ad.add j) = some u)
section
variable {w w' : World} {size n c : Nat} {A : Option Addr} {xs : List Value}
theorem Rd.nil (w : World) (size c : Nat) (A : Option Addr) : Rd w size A 0 c [] := ⟨by simp, Nat.zero_le _, fun h => absurd h (by omega)⟩
theorem Rd.ext (h : Rd w size A n c xs) (hb : Ext w w') : Rd w' size A n c xs :=
  ⟨h.1, h.2.1, fun hn => by
    obtain ⟨ad, e, hl, hc⟩ := h.2.2 hn
    exact ⟨ad, e, hb.lt hl, fun j u hu => (hb.cell (by rw [blk_add]; exact hl)).trans (hc j u hu)⟩⟩
theorem Rd.at_ (h : Rd w size A n c xs) {j : Nat} {u : Value} (hu : xs[j]? = some u) : ∃ ad, A = some ad ∧ ad.block < w.heap.size ∧ w.cell? (ad.add j) = some u := by
  have hn : 0 < n := by
    rcases Nat.eq_zero_or_pos n with h0 | h0
    · have h1 := h.1
      subst h0
      have : xs = [] := List.eq_nil_of_length_eq_zero (by simpa using h1)
      subst this
      simp at hu
    · exact h0
  obtain ⟨ad, e, hl, hc⟩ := h.2.2 hn
  exact ⟨ad, e, hl, hc j u hu⟩
/-- the cut 's[k:]': the model keeps the old address where nothing is left of the capacity -/
theorem Rd.drop (h : Rd w size A n c xs) {k : Nat} (hk : k ≤ n) : Rd w size (if c = k then A else A.map (·.add (k * size))) (n - k) (c - k) (xs.drop (k * size)) := by
  refine ⟨by rw [List.length_drop, h.1, Nat.sub_mul], by have := h.2.1; omega, fun hn => ?_⟩
  obtain ⟨ad, rfl, hb, hcell⟩ := h.2.2 (by omega)
  rw [if_neg (by have := h.2.1; omega)]
  refine ⟨ad.add (k * size), rfl, by rw [blk_add]; exact hb, fun j u hu => ?_⟩
  rw [add_add']
  exact hcell _ u (by rw [← hu, List.getElem?_drop])
theorem Rd.take (h : Rd w size A n c xs) {k : Nat} (hk : k ≤ n) : Rd w size A k c (xs.take (k * size)) := by
  refine ⟨?_, by have := h.2.1; omega, fun hn => ?_⟩
  · rw [List.length_take, h.1, Nat.min_eq_left (Nat.mul_le_mul_right _ hk)]
  · obtain ⟨ad, rfl, hb, hcell⟩ := h.2.2 (by omega)
    refine ⟨ad, rfl, hb, fun j u hu => hcell j u ?_⟩
    rw [List.getElem?_take] at hu
    split at hu
    · exact hu
    · cases hu
end

theorem size_mk (l : List UInt8) : (⟨l.toArray⟩ : ByteArray).size = l.length := rfl
theorem size_cat (a b : ByteArray) : (a ++ b).size = a.size + b.size := ByteArray.size_append
theorem toList_mk (l : List UInt8) : (⟨l.toArray⟩ : ByteArray).data.toList = l := by simp
theorem toList_cat (a b : ByteArray) : (a ++ b).data.toList = a.data.toList ++ b.data.toList := by rw [ByteArray.data_append, Array.toList_append]
theorem mk_toList (s : ByteArray) : (⟨s.data.toList.toArray⟩ : ByteArray) = s := by cases s; rfl
theorem size_toList (s : ByteArray) : s.data.toList.length = s.size := rfl
theorem add_zero' (a : Addr) : a.add 0 = a := by unfold Addr.add; rw [if_pos rfl]
section
variable {w w' : World} {n c : Nat} {A : Option Addr} {xs : List Int} {ss : List ByteArray}
theorem Rd.drew {size : Nat} {l : List Value} (h : Rd w size A n c l) : Rd w.drew size A n c l := h
theorem Rd.takeI (h : Rd w 1 A n c (xs.map (Value.int .i64))) {k : Nat} (hk : k ≤ n) : Rd w 1 A k c ((xs.take k).map (Value.int .i64)) := by
  have := h.take hk
  rwa [Nat.mul_one, ← List.map_take] at this
theorem Rd.dropI (h : Rd w 1 A n c (xs.map (Value.int .i64))) {k : Nat} (hk : k ≤ n) : Rd w 1 (if c = k then A else A.map (fun x => x.add k)) (n - k) (c - k) ((xs.drop k).map (Value.int .i64)) := by
  have := h.drop hk
  rwa [Nat.mul_one, ← List.map_drop] at this
theorem Rd.dropI' (h : Rd w 1 A n c (xs.map (Value.int .i64))) {k : Nat} (hk : k < n) : Rd w 1 (A.map (fun x => x.add k)) (n - k) (c - k) ((xs.drop k).map (Value.int .i64)) := by
  have := h.dropI (k := k) (by omega)
  rwa [if_neg (by have := h.2.1; omega)] at this
theorem Rd.lenI (h : Rd w 1 A n c (xs.map (Value.int .i64))) : xs.length = n := by simpa using h.1
theorem Rd.getI (h : Rd w 1 A n c (xs.map (Value.int .i64))) {j : Nat} {z : Int} (hz : xs[j]? = some z) : ∃ ad, A = some ad ∧ ad.block < w.heap.size ∧ w.cell? (ad.add j) = some (.int .i64 z) :=
  h.at_ (by rw [List.getElem?_map, hz]; rfl)
theorem Rd.takeS (h : Rd w 1 A n c (ss.map Value.string)) {k : Nat} (hk : k ≤ n) : Rd w 1 A k c ((ss.take k).map Value.string) := by
  have := h.take hk
  rwa [Nat.mul_one, ← List.map_take] at this
theorem Rd.dropS (h : Rd w 1 A n c (ss.map Value.string)) {k : Nat} (hk : k ≤ n) : Rd w 1 (if c = k then A else A.map (fun x => x.add k)) (n - k) (c - k) ((ss.drop k).map Value.string) := by
  have := h.drop hk
  rwa [Nat.mul_one, ← List.map_drop] at this
theorem Rd.dropS' (h : Rd w 1 A n c (ss.map Value.string)) {k : Nat} (hk : k < n) : Rd w 1 (A.map (fun x => x.add k)) (n - k) (c - k) ((ss.drop k).map Value.string) := by
  have := h.dropS (k := k) (by omega)
  rwa [if_neg (by have := h.2.1; omega)] at this
theorem Rd.lenS (h : Rd w 1 A n c (ss.map Value.string)) : ss.length = n := by simpa using h.1
theorem Rd.getS (h : Rd w 1 A n c (ss.map Value.string)) {j : Nat} {z : ByteArray} (hz : ss[j]? = some z) : ∃ ad, A = some ad ∧ ad.block < w.heap.size ∧ w.cell? (ad.add j) = some (.string z) :=
  h.at_ (by rw [List.getElem?_map, hz]; rfl)
end

theorem foldl_push_bytes : ∀ (l : List Int) (r : ByteArray), l.foldl (fun r n => r.push (UInt8.ofNat n.toNat)) r = ⟨r.data ++ (l.map byteOf).toArray⟩
  | [], r => by simp
  | b :: l, r => by
    simp only [List.map_cons, List.foldl_cons]
    rw [foldl_push_bytes l]
    simp [ByteArray.push, byteOf]

section
variable {P : Program}
/-- 'string(b)' of any bytes that lie at an address -/
theorem run_conv_cells (w : World) (src dst e : TypeId) (a : Addr) (cap : Nat) (l : List Int) (hs : P.underlying src = some (.slice e)) (he : P.underlying e = some (.int .u8)) (hd : P.underlying dst = some .string)
    (hc : ∀ j u, (l.map (Value.int .u8))[j]? = some u → w.cell? (a.add j) = some u) :
    (convert src dst (.slice (some a) l.length cap)).run P w = .ok (.string ⟨(l.map byteOf).toArray⟩) w := by
  rw [run_convert_bytes_string w src dst e (some a) l.length cap hs he hd]
  have hl := run_loadCells_list (P := P) w a (l.map (Value.int .u8)) hc
  simp only [List.length_map] at hl
  rw [run_bytesToString w a l.length cap _ hl, foldl_push_bytes]
  have he0 : ByteArray.empty.data = #[] := rfl
  rw [he0]
  simp

theorem run_conv_new (w : World) (g : Nat) (hg : g = w.heap.size) (src dst e : TypeId) (cap : Nat) (l : List Int) (hs : P.underlying src = some (.slice e)) (he : P.underlying e = some (.int .u8)) (hd : P.underlying dst = some .string) :
    (convert src dst (.slice (some ⟨g, 0, none⟩) l.length cap)).run P (w.alloc (.cells (l.map (Value.int .u8)).toArray e)) = .ok (.string ⟨(l.map byteOf).toArray⟩) (w.alloc (.cells (l.map (Value.int .u8)).toArray e)) := by
  subst hg
  refine run_conv_cells _ src dst e _ cap l hs he hd fun j u hu => ?_
  have : (⟨w.heap.size, 0, none⟩ : Addr).add j = ⟨w.heap.size, j, none⟩ := by
    unfold Addr.add; split <;> simp_all
  rw [this, World.cell?_alloc_new]
  simpa using hu
end
end Go.Proofs.YtnphbkjkeipmmaaGreatDoor

/- Arguments opened: strings, structs, slices of anything, over any program. -/
namespace Go.Proofs.YtnphbkjkeipmmaaGreatDoor
set_option linter.unusedVariables false
open Go.ChangeShapes Go.WideShapes Go.ChangeAt Go.RowKit Go.Deep Go.Joins

section
variable {H : Type} {enc : TypeId × Value → H} {P : Program} {w : World} {base : Nat} {spare : Nat → Bool} {held : Bool}

theorem block_lt_of_cell {a : Addr} {u : Value} (h : w.cell? a = some u) : a.block < w.heap.size := by
  rcases Nat.lt_or_ge a.block w.heap.size with hl | hl
  · exact hl
  · simp [World.cell?, Array.getElem?_eq_none hl] at h

theorem block_lt_of_cells {a : Addr} {C : Nat} {cs : List Value} (hC : 0 < C) (h : w.cells? base a C = some cs) : a.block < w.heap.size := by
  obtain ⟨_, hl, hat⟩ := World.cells?_some h
  have h0 := hat 0 hC
  rw [List.getElem?_eq_getElem (by omega)] at h0
  have := block_lt_of_cell h0
  rwa [blk_add] at this

theorem flat_get {τ : Type} (f : τ → List Value) (C : Nat) (hlen : ∀ y, (f y).length = C) : ∀ (ys : List τ) (j : Nat) (u : Value), (ys.flatMap f)[j]? = some u → ∃ i r y, i < ys.length ∧ r < C ∧ j = i * C + r ∧ ys[i]? = some y ∧ (f y)[r]? = some u
  | [], j, u, h => by simp at h
  | y :: ys, j, u, h => by
    rw [List.flatMap_cons] at h
    by_cases hj : j < C
    · rw [List.getElem?_append_left (by rw [hlen]; exact hj)] at h
      exact ⟨0, j, y, by simp, hj, by simp, by simp, h⟩
    · rw [List.getElem?_append_right (by rw [hlen]; omega), hlen] at h
      obtain ⟨i, r, z, hi, hr, he, hz, hu⟩ := flat_get f C hlen ys (j - C) u h
      refine ⟨i + 1, r, z, by simpa using hi, hr, ?_, by simpa using hz, hu⟩
      rw [Nat.add_mul]; omega

theorem flat_len {τ : Type} (f : τ → List Value) (C : Nat) (hlen : ∀ y, (f y).length = C) (ys : List τ) : (ys.flatMap f).length = ys.length * C := by
  induction ys with
  | nil => simp
  | cons y ys ih => rw [List.flatMap_cons, List.length_append, ih, hlen, List.length_cons, Nat.add_mul]; omega

/-- ANY SLICE: each element decoded by 'dec'. -/
theorem open_rd {τ : Type} [Inhabited τ] (C : Nat) (hC0 : 0 < C) (f : τ → List Value) (good : τ → Prop) (hlen : ∀ y, (f y).length = C) {t e : TypeId} (ht : P.underlying t = some (.slice e)) (hC : P.cellsOf e = C)
    (dec : ∀ n cs x, DataW.trod enc P w 0 spare held n e cs = some x → ∃ y, cs = f y ∧ good y)
    {r : Reach} {b0 : Nat} {v : Value} {d : DataW H} {p : List MemPlace} (hv : Value.okWide P w r b0 t v) (h : DataW.Trod enc P w 0 spare held t v d p) :
    ∃ (A : Option Addr) (n c : Nat) (ys : List τ), v = .slice A n c ∧ ys.length = n ∧ c ≤ maxLen ∧ Rd w C A n c (ys.flatMap f) ∧ ∀ y ∈ ys, good y := by
  obtain ⟨a0, len, cap, rfl⟩ := okWide_slice ht hv
  obtain ⟨fuel, hf⟩ := h
  rcases open_slice ht hf with ⟨hcs, _⟩ | ⟨a, len', cap', m, n, D, Pl, hcs, _, hl, hm, hmm, _, hi⟩
  · simp [Value.cells] at hcs
    obtain ⟨rfl, rfl, rfl⟩ := hcs
    exact ⟨none, 0, 0, [], rfl, rfl, Nat.zero_le _, Rd.nil _ _ _ _, by simp⟩
  · simp [Value.cells] at hcs
    obtain ⟨rfl, rfl, rfl⟩ := hcs
    have hlm : len ≤ m := by rw [hmm]; split <;> omega
    have key : ∀ i, i < len → ∃ y : τ, w.cells? 0 (a.add (i * C)) C = some (f y) ∧ good y := fun i hil => by
      obtain ⟨cs', h1, h2⟩ := hi i (by omega)
      obtain ⟨y, rfl, hy⟩ := dec _ _ _ h2
      rw [hC] at h1
      exact ⟨y, h1, hy⟩
    obtain ⟨F, hF⟩ := choose_lt key
    refine ⟨some a, len, cap, (List.range len).map F, rfl, by simp, hm, ⟨?_, hl, fun hn => ?_⟩, ?_⟩
    · rw [flat_len f C hlen]; simp
    · refine ⟨a, rfl, ?_, fun j u hu => ?_⟩
      · have := block_lt_of_cells hC0 (hF 0 hn).1
        rwa [blk_add] at this
      · obtain ⟨i, r, y, hil, hr, rfl, hy, hru⟩ := flat_get f C hlen _ _ _ hu
        simp at hil
        have hyF : y = F i := by
          rw [List.getElem?_map, List.getElem?_range (by omega)] at hy
          simpa using hy.symm
        subst hyF
        obtain ⟨_, _, hat⟩ := World.cells?_some (hF i hil).1
        rw [← add_add', hat r hr, hru]
    · intro y hy
      obtain ⟨i, hi1, rfl⟩ := List.mem_map.1 hy
      exact (hF i (List.mem_range.1 hi1)).2

/-- one-cell fields of a struct's cells, by index -/
theorem fields_of {t : TypeId} {fs : Array Field} {fuel : Nat} {cs : List Value} {x : DataW H × List MemPlace} (ht : P.underlying t = some (.struct fs)) (hone : oneCellFields P fs = true) (hC : P.cellsOf t = fs.size)
    (h : DataW.trod enc P w base spare held fuel t cs = some x) : cs.length = fs.size ∧ ∃ n, ∀ (j : Nat) (f : Field), fs[j]? = some f → ∃ v y, cs[j]? = some v ∧ DataW.trod enc P w base spare held n f.type [v] = some y := by
  obtain ⟨ys, n, _, _, hlen, hyl, hf⟩ := DataW.trod_struct ht h
  rw [hC] at hlen
  refine ⟨hlen, n, fun j f hj => ?_⟩
  obtain ⟨ho, hk⟩ := hone_of hone j f hj
  have hjl : j < fs.size := (Array.getElem?_eq_some_iff.1 hj).1
  have h1 := hf j f hj
  rw [ho, hk] at h1
  have h2 : (cs.drop j).take 1 = [cs[j]'(by omega)] := by
    rw [List.drop_eq_getElem_cons (by omega)]
    rfl
  rw [h2, List.getElem?_eq_getElem (by omega)] at h1
  exact ⟨_, _, List.getElem?_eq_getElem (by omega), h1⟩

/-! ### The element types of this project, each at its own numbers -/
theorem dec_int {e : TypeId} {n : Nat} {cs : List Value} {x : DataW H × List MemPlace} (he : P.underlying e = some (.int .i64)) (h : DataW.trod enc P w base spare held n e cs = some x) : ∃ z : Int, cs = [.int .i64 z] ∧ (Lit.int .i64 z).wf = true := by
  obtain ⟨z, h1, _, h3⟩ := DataW.trod_int he h
  exact ⟨z, h1, h3⟩
theorem dec_str {e : TypeId} {n : Nat} {cs : List Value} {x : DataW H × List MemPlace} (he : P.underlying e = some .string) (h : DataW.trod enc P w base spare held n e cs = some x) : ∃ s : ByteArray, cs = [.string s] ∧ s.size ≤ maxLen := by
  obtain ⟨s, h1, _, h3⟩ := DataW.trod_string he h
  exact ⟨s, h1, h3⟩
end

/-- an entry: its time, its data -/
structure Ent where
  time : Int
  data : ByteArray
instance : Inhabited Ent := ⟨⟨0, ByteArray.empty⟩⟩
def Ent.cells (e : Ent) : List Value := [.int .i64 e.time, .string e.data]
abbrev Ent.val (e : Ent) : Value := .agg #[.int .i64 e.time, .string e.data]
def Ent.good (e : Ent) : Prop := (Lit.int .i64 e.time).wf = true ∧ e.data.size ≤ maxLen
/-- a pair -/
structure Pr where
  key : ByteArray
  value : ByteArray
  gone : Bool
instance : Inhabited Pr := ⟨⟨ByteArray.empty, ByteArray.empty, false⟩⟩
def Pr.cells (p : Pr) : List Value := [.string p.key, .string p.value, .bool p.gone]
abbrev Pr.val (p : Pr) : Value := .agg #[.string p.key, .string p.value, .bool p.gone]
def Pr.good (p : Pr) : Prop := p.key.size ≤ maxLen ∧ p.value.size ≤ maxLen
/-- a head -/
structure Hd where
  size : Int
  root : Int
  time : Int
  sign : Int
instance : Inhabited Hd := ⟨⟨0, 0, 0, 0⟩⟩
def Hd.cells (h : Hd) : List Value := [.int .i64 h.size, .int .i64 h.root, .int .i64 h.time, .int .i64 h.sign]
abbrev Hd.val (h : Hd) : Value := .agg #[.int .i64 h.size, .int .i64 h.root, .int .i64 h.time, .int .i64 h.sign]
def Hd.good (h : Hd) : Prop := (Lit.int .i64 h.size).wf = true ∧ (Lit.int .i64 h.root).wf = true ∧ (Lit.int .i64 h.time).wf = true ∧ (Lit.int .i64 h.sign).wf = true
/-- a tile -/
structure Tl where
  level : Int
  index : Int
  wide : Int
instance : Inhabited Tl := ⟨⟨0, 0, 0⟩⟩
def Tl.cells (t : Tl) : List Value := [.int .i64 t.level, .int .i64 t.index, .int .i64 t.wide]
abbrev Tl.val (t : Tl) : Value := .agg #[.int .i64 t.level, .int .i64 t.index, .int .i64 t.wide]
def Tl.good (t : Tl) : Prop := (Lit.int .i64 t.level).wf = true ∧ (Lit.int .i64 t.index).wf = true ∧ (Lit.int .i64 t.wide).wf = true
def icells (z : Int) : List Value := [.int .i64 z]
def scells (s : ByteArray) : List Value := [.string s]
def igood (z : Int) : Prop := (Lit.int .i64 z).wf = true
def sgood (s : ByteArray) : Prop := s.size ≤ maxLen
theorem flat_icells (l : List Int) : l.flatMap icells = l.map (Value.int .i64) := by
  induction l with
  | nil => rfl
  | cons z l ih => rw [List.flatMap_cons, ih]; rfl
theorem flat_scells (l : List ByteArray) : l.flatMap scells = l.map Value.string := by
  induction l with
  | nil => rfl
  | cons z l ih => rw [List.flatMap_cons, ih]; rfl
end Go.Proofs.YtnphbkjkeipmmaaGreatDoor

namespace Go.Proofs.YtnphbkjkeipmmaaGreatDoor
open Go.ChangeShapes Go.WideShapes Go.ChangeAt Go.RowKit Go.Deep Go.Joins
set_option linter.unusedVariables false

theorem own : ownKnob Tryz.prog.godebug = none := by kernel_rfl
theorem laidOut : laidOutB Tryz.prog = true := by kernel_rfl
section
variable {H : Type} {enc : TypeId × Value → H} {w : World} {base : Nat} {spare : Nat → Bool} {held : Bool}
theorem dec_ent {n : Nat} {cs : List Value} {x : DataW H × List MemPlace} (h : DataW.trod enc Tryz.prog w base spare held n 67 cs = some x) : ∃ y : Ent, cs = y.cells ∧ y.good := by
  obtain ⟨hl, m, hf⟩ := fields_of Tryz.underlying67 (by kernel_rfl) (by kernel_rfl) h
  match cs, hl with
  | [c0, c1], _ =>
    obtain ⟨v0, y0, e0, t0⟩ := hf 0 _ rfl
    obtain ⟨v1, y1, e1, t1⟩ := hf 1 _ rfl
    simp at e0 e1
    subst e0 e1
    obtain ⟨z, hz, _, wz⟩ := DataW.trod_int Tryz.underlying3 t0
    obtain ⟨s, hs, _, ws⟩ := DataW.trod_string Tryz.underlying9 t1
    simp at hz hs
    subst hz hs
    exact ⟨⟨z, s⟩, rfl, wz, ws⟩
theorem dec_head {n : Nat} {cs : List Value} {x : DataW H × List MemPlace} (h : DataW.trod enc Tryz.prog w base spare held n 29 cs = some x) : ∃ y : Hd, cs = y.cells ∧ y.good := by
  obtain ⟨hl, m, hf⟩ := fields_of Tryz.underlying29 (by kernel_rfl) (by kernel_rfl) h
  match cs, hl with
  | [c0, c1, c2, c3], _ =>
    obtain ⟨v0, y0, e0, t0⟩ := hf 0 _ rfl
    obtain ⟨v1, y1, e1, t1⟩ := hf 1 _ rfl
    obtain ⟨v2, y2, e2, t2⟩ := hf 2 _ rfl
    obtain ⟨v3, y3, e3, t3⟩ := hf 3 _ rfl
    simp at e0 e1 e2 e3
    subst e0 e1 e2 e3
    obtain ⟨a, ha, _, wa⟩ := DataW.trod_int Tryz.underlying3 t0
    obtain ⟨b, hb, _, wb⟩ := DataW.trod_int Tryz.underlying3 t1
    obtain ⟨c, hc, _, wc⟩ := DataW.trod_int Tryz.underlying3 t2
    obtain ⟨d, hd, _, wd⟩ := DataW.trod_int Tryz.underlying3 t3
    simp at ha hb hc hd
    subst ha hb hc hd
    exact ⟨⟨a, b, c, d⟩, rfl, wa, wb, wc, wd⟩
theorem dec_tile {n : Nat} {cs : List Value} {x : DataW H × List MemPlace} (h : DataW.trod enc Tryz.prog w base spare held n 100 cs = some x) : ∃ y : Tl, cs = y.cells ∧ y.good := by
  obtain ⟨hl, m, hf⟩ := fields_of Tryz.underlying100 (by kernel_rfl) (by kernel_rfl) h
  match cs, hl with
  | [c0, c1, c2], _ =>
    obtain ⟨v0, y0, e0, t0⟩ := hf 0 _ rfl
    obtain ⟨v1, y1, e1, t1⟩ := hf 1 _ rfl
    obtain ⟨v2, y2, e2, t2⟩ := hf 2 _ rfl
    simp at e0 e1 e2
    subst e0 e1 e2
    obtain ⟨a, ha, _, wa⟩ := DataW.trod_int Tryz.underlying3 t0
    obtain ⟨b, hb, _, wb⟩ := DataW.trod_int Tryz.underlying3 t1
    obtain ⟨c, hc, _, wc⟩ := DataW.trod_int Tryz.underlying3 t2
    simp at ha hb hc
    subst ha hb hc
    exact ⟨⟨a, b, c⟩, rfl, wa, wb, wc⟩
end
end Go.Proofs.YtnphbkjkeipmmaaGreatDoor
