/- Plain laws: sums, trees, no program in sight. -/
import Derived.Below
import Derived.Lib.BitFns
import Derived.Lib.ItoaNum
namespace Go.Proofs.YtmknpehjncpekaaDoor
set_option linter.unusedVariables false

/-- one byte into a sum -/
def sumStep (n : Int) (c : UInt8) : Int := (n * 131 + (c.toNat : Int) + 1) % 2147483647
def sumFrom (n : Int) (l : List UInt8) : Int := l.foldl sumStep n
def sumL (l : List UInt8) : Int := sumFrom 5381 l
theorem sumStep_bd (n : Int) (c : UInt8) : 0 ≤ sumStep n c ∧ sumStep n c < 2147483647 := by
  unfold sumStep; omega
theorem sumFrom_snoc (n : Int) (l : List UInt8) (c : UInt8) : sumFrom n (l ++ [c]) = sumStep (sumFrom n l) c := by
  simp [sumFrom]
theorem sumFrom_append (n : Int) (l m : List UInt8) : sumFrom n (l ++ m) = sumFrom (sumFrom n l) m := by
  simp [sumFrom]
theorem sumFrom_bd (l : List UInt8) : ∀ n : Int, 0 ≤ n → n < 2147483647 → 0 ≤ sumFrom n l ∧ sumFrom n l < 2147483647 := by
  induction l with
  | nil => intro n h0 h1; exact ⟨h0, h1⟩
  | cons c l ih => intro n _ _; exact ih _ (sumStep_bd n c).1 (sumStep_bd n c).2
theorem sumL_bd (l : List UInt8) : 0 ≤ sumL l ∧ sumL l < 2147483647 := sumFrom_bd l 5381 (by omega) (by omega)
theorem sumL_snoc (l : List UInt8) (c : UInt8) : sumL (l ++ [c]) = sumStep (sumL l) c := sumFrom_snoc _ _ _
theorem take_snoc (l : List UInt8) (k : Nat) (h : k < l.length) : l.take (k + 1) = l.take k ++ [l[k]] := by
  rw [List.take_succ_eq_append_getElem h]
theorem sumL_take (l : List UInt8) (k : Nat) (h : k < l.length) : sumL (l.take (k + 1)) = sumStep (sumL (l.take k)) l[k] := by
  rw [take_snoc l k h, sumL_snoc]

def byteOf (n : Int) : UInt8 := UInt8.ofNat n.toNat
theorem byteOf_toNat (c : UInt8) : byteOf (c.toNat : Int) = c := by simp [byteOf]
theorem toNat_byteOf (n : Int) (h0 : 0 ≤ n) (h1 : n < 256) : ((byteOf n).toNat : Int) = n := by
  unfold byteOf
  rw [UInt8.toNat_ofNat']
  omega

/-- four bytes of a number -/
def fourB (n : Int) : List UInt8 := [byteOf (n / 16777216 % 256), byteOf (n / 65536 % 256), byteOf (n / 256 % 256), byteOf (n % 256)]
/-- the bytes of a node -/
def nodeB (a b : Int) : List UInt8 := 1 :: (fourB a ++ fourB b)
def nodeL (a b : Int) : Int := sumL (nodeB a b)
theorem nodeL_bd (a b : Int) : 0 ≤ nodeL a b ∧ nodeL a b < 2147483647 := sumL_bd _
theorem fourB_len (n : Int) : (fourB n).length = 4 := rfl
theorem nodeB_len (a b : Int) : (nodeB a b).length = 9 := rfl
/-- a leaf's sum -/
def leafL (l : List UInt8) : Int := sumL (0 :: l)
/-- is a number a sum? -/
def vld (n : Int) : Bool := decide (0 ≤ n ∧ n < 2147483647)
theorem vld_true {n : Int} (h : vld n = true) : 0 ≤ n ∧ n < 2147483647 := of_decide_eq_true h
theorem vld_false {n : Int} (h : vld n = false) : ¬ (0 ≤ n ∧ n < 2147483647) := of_decide_eq_false h
theorem vld_mk {n : Int} (h : 0 ≤ n ∧ n < 2147483647) : vld n = true := decide_eq_true h
theorem vld_not {n : Int} (h : ¬ (0 ≤ n ∧ n < 2147483647)) : vld n = false := decide_eq_false h

def allV (xs : List Int) : Bool := xs.all vld
theorem allV_get {xs : List Int} (h : allV xs = true) {j : Nat} {z : Int} (hz : xs[j]? = some z) : vld z = true :=
  List.all_eq_true.1 h z (List.mem_of_getElem? hz)
theorem allV_not {xs : List Int} (h : allV xs = false) : ∃ (j : Nat) (z : Int), xs[j]? = some z ∧ vld z = false ∧ ∀ (i : Nat) (u : Int), i < j → xs[i]? = some u → vld u = true := by
  induction xs with
  | nil => simp [allV] at h
  | cons z xs ih =>
    by_cases hz : vld z = true
    · have h' : allV xs = false := by simpa [allV, hz] using h
      obtain ⟨j, u, h1, h2, h3⟩ := ih h'
      refine ⟨j + 1, u, by simpa using h1, h2, fun i v hi hv => ?_⟩
      rcases i with _ | i
      · simp at hv; subst hv; exact hz
      · exact h3 i v (by omega) (by simpa using hv)
    · exact ⟨0, z, rfl, by simpa using hz, fun i u hi => absurd hi (by omega)⟩


/-! ### Trees -/
/-- the greatest power of two below a number -/
def half (n : Nat) : Nat := 2 ^ (Lib.bitLen (n - 1) - 1)
theorem half_bitLen (n : Nat) (h2 : 2 ≤ n) (hn : n ≤ 4096) : 1 ≤ Lib.bitLen (n - 1) ∧ Lib.bitLen (n - 1) ≤ 12 ∧ half n ≤ n - 1 ∧ n - 1 < 2 * half n := by
  have h64 : n - 1 < 2 ^ 64 := by omega
  obtain ⟨a, b, c⟩ := Lib.bitLenAux_bounds 64 (n - 1) h64 (by omega)
  have d := Lib.bitLen_le (n - 1) 12 (by omega) (by omega)
  refine ⟨a, d, b, ?_⟩
  have e : 2 * half n = 2 ^ Lib.bitLen (n - 1) := by
    unfold half
    rw [Nat.mul_comm, ← Nat.pow_succ]
    congr 1
    have : 1 ≤ Lib.bitLen (n - 1) := a
    omega
  rw [e]
  exact c
theorem half_pos (n : Nat) : 1 ≤ half n := Nat.one_le_two_pow
theorem half_lt {n : Nat} (h2 : 2 ≤ n) (hn : n ≤ 4096) : half n < n := by have := half_bitLen n h2 hn; omega
theorem half_le {n : Nat} (h2 : 2 ≤ n) (hn : n ≤ 4096) : n ≤ 2 * half n := by have := half_bitLen n h2 hn; omega
theorem half_eq {n k : Nat} (h2 : 2 ≤ n) (hn : n ≤ 4096) (h : 2 ^ k < n) (h' : n ≤ 2 ^ (k + 1)) : half n = 2 ^ k := by
  obtain ⟨a, b, c, d⟩ := half_bitLen n h2 hn
  unfold half at c d ⊢
  generalize Lib.bitLen (n - 1) - 1 = j at *
  rcases Nat.lt_trichotomy j k with h1 | h1 | h1
  · have : 2 ^ (j + 1) ≤ 2 ^ k := Nat.pow_le_pow_right (by omega) h1
    rw [Nat.pow_succ] at this
    omega
  · rw [h1]
  · have : 2 ^ (k + 1) ≤ 2 ^ j := Nat.pow_le_pow_right (by omega) h1
    omega

theorem allV_append (a b : List Int) : allV (a ++ b) = (allV a && allV b) := by simp [allV]
theorem allV_take {xs : List Int} (h : allV xs = true) (k : Nat) : allV (xs.take k) = true := by
  have := allV_append (xs.take k) (xs.drop k)
  rw [List.take_append_drop, h] at this
  exact (Bool.and_eq_true_iff.1 this.symm).1
theorem allV_drop {xs : List Int} (h : allV xs = true) (k : Nat) : allV (xs.drop k) = true := by
  have := allV_append (xs.take k) (xs.drop k)
  rw [List.take_append_drop, h] at this
  exact (Bool.and_eq_true_iff.1 this.symm).2
theorem vld_node (a b : Int) : vld (nodeL a b) = true := vld_mk (nodeL_bd a b)
theorem vld_sum (l : List UInt8) : vld (sumL l) = true := vld_mk (sumL_bd l)

/-- the root of leafs -/
def ofL (xs : List Int) : Int :=
  if h : 2 ≤ xs.length ∧ half xs.length < xs.length then nodeL (ofL (xs.take (half xs.length))) (ofL (xs.drop (half xs.length))) else xs.headD (sumL [])
termination_by xs.length
decreasing_by
  · rw [List.length_take]; omega
  · rw [List.length_drop]; have := half_pos xs.length; omega
theorem ofL_nil : ofL [] = sumL [] := by rw [ofL, dif_neg (by simp)]; rfl
theorem ofL_one (x : Int) : ofL [x] = x := by rw [ofL, dif_neg (by simp)]; rfl
theorem ofL_node {xs : List Int} (h2 : 2 ≤ xs.length) (hn : xs.length ≤ 4096) : ofL xs = nodeL (ofL (xs.take (half xs.length))) (ofL (xs.drop (half xs.length))) := by
  rw [ofL, dif_pos ⟨h2, half_lt h2 hn⟩]
theorem vld_ofL {xs : List Int} (h : allV xs = true) (hn : xs.length ≤ 4096) : vld (ofL xs) = true := by
  match xs, h, hn with
  | [], _, _ => rw [ofL_nil]; exact vld_sum _
  | [x], h, _ => rw [ofL_one]; exact allV_get h (j := 0) rfl
  | x :: y :: l, _, hn => rw [ofL_node (by simp) hn]; exact vld_node _ _

/-! ### Proofs -/
/-- how long a proof is -/
def stepsN (i n : Nat) : Nat :=
  if h : 2 ≤ n ∧ half n < n then (if i < half n then stepsN i (half n) + 1 else stepsN (i - half n) (n - half n) + 1) else 0
termination_by n
decreasing_by
  · exact h.2
  · have := half_pos n; omega
theorem stepsN_left {i n : Nat} (h2 : 2 ≤ n) (hn : n ≤ 4096) (hi : i < half n) : stepsN i n = stepsN i (half n) + 1 := by
  rw [stepsN, dif_pos ⟨h2, half_lt h2 hn⟩, if_pos hi]
theorem stepsN_right {i n : Nat} (h2 : 2 ≤ n) (hn : n ≤ 4096) (hi : ¬ i < half n) : stepsN i n = stepsN (i - half n) (n - half n) + 1 := by
  rw [stepsN, dif_pos ⟨h2, half_lt h2 hn⟩, if_neg hi]
theorem stepsN_one {n : Nat} (i : Nat) (h : ¬ 2 ≤ n) : stepsN i n = 0 := by rw [stepsN, dif_neg (by omega)]
theorem stepsN_lt (N : Nat) : ∀ i n : Nat, n ≤ N → n ≤ 4096 → 1 ≤ n → stepsN i n < n := by
  induction N with
  | zero => intro i n h _ h1; omega
  | succ N ih =>
    intro i n h hn h1
    by_cases h2 : 2 ≤ n
    · have := half_lt h2 hn
      have := half_pos n
      by_cases hi : i < half n
      · rw [stepsN_left h2 hn hi]; have := ih i (half n) (by omega) (by omega) (by omega); omega
      · rw [stepsN_right h2 hn hi]; have := ih (i - half n) (n - half n) (by omega) (by omega) (by omega); omega
    · rw [stepsN_one i h2]; omega

/-- the proof of a leaf -/
def wayL (xs : List Int) (i : Nat) : List Int :=
  if h : 2 ≤ xs.length ∧ half xs.length < xs.length then
    (if i < half xs.length then wayL (xs.take (half xs.length)) i ++ [ofL (xs.drop (half xs.length))] else wayL (xs.drop (half xs.length)) (i - half xs.length) ++ [ofL (xs.take (half xs.length))])
  else []
termination_by xs.length
decreasing_by
  · rw [List.length_take]; omega
  · rw [List.length_drop]; have := half_pos xs.length; omega
theorem wayL_left {xs : List Int} {i : Nat} (h2 : 2 ≤ xs.length) (hn : xs.length ≤ 4096) (hi : i < half xs.length) : wayL xs i = wayL (xs.take (half xs.length)) i ++ [ofL (xs.drop (half xs.length))] := by
  rw [wayL, dif_pos ⟨h2, half_lt h2 hn⟩, if_pos hi]
theorem wayL_right {xs : List Int} {i : Nat} (h2 : 2 ≤ xs.length) (hn : xs.length ≤ 4096) (hi : ¬ i < half xs.length) : wayL xs i = wayL (xs.drop (half xs.length)) (i - half xs.length) ++ [ofL (xs.take (half xs.length))] := by
  rw [wayL, dif_pos ⟨h2, half_lt h2 hn⟩, if_neg hi]
theorem wayL_one {xs : List Int} {i : Nat} (h2 : ¬ 2 ≤ xs.length) : wayL xs i = [] := by rw [wayL, dif_neg (by omega)]
theorem wayL_len (N : Nat) : ∀ (xs : List Int) (i : Nat), xs.length ≤ N → xs.length ≤ 4096 → (wayL xs i).length = stepsN i xs.length := by
  induction N with
  | zero =>
    intro xs i h hn
    rw [wayL_one (by omega), stepsN_one i (by omega)]; rfl
  | succ N ih =>
    intro xs i h hn
    by_cases h2 : 2 ≤ xs.length
    · have h3 := half_lt h2 hn
      have h4 := half_pos xs.length
      by_cases hi : i < half xs.length
      · rw [wayL_left h2 hn hi, stepsN_left h2 hn hi, List.length_append, ih _ _ (by rw [List.length_take]; omega) (by rw [List.length_take]; omega), List.length_take, Nat.min_eq_left (by omega)]; rfl
      · rw [wayL_right h2 hn hi, stepsN_right h2 hn hi, List.length_append, ih _ _ (by rw [List.length_drop]; omega) (by rw [List.length_drop]; omega), List.length_drop]; rfl
    · rw [wayL_one h2, stepsN_one i h2]; rfl

/-- the root that comes of a leaf and a proof -/
def upL (i n : Nat) (s : Int) (p : List Int) : Int :=
  if h : 2 ≤ n ∧ half n < n then
    (if i < half n then nodeL (upL i (half n) s p.dropLast) (p.getLastD 0) else nodeL (p.getLastD 0) (upL (i - half n) (n - half n) s p.dropLast))
  else s
termination_by n
decreasing_by
  · exact h.2
  · have := half_pos n; omega
theorem upL_left {i n : Nat} {s : Int} {p : List Int} (h2 : 2 ≤ n) (hn : n ≤ 4096) (hi : i < half n) : upL i n s p = nodeL (upL i (half n) s p.dropLast) (p.getLastD 0) := by
  rw [upL, dif_pos ⟨h2, half_lt h2 hn⟩, if_pos hi]
theorem upL_right {i n : Nat} {s : Int} {p : List Int} (h2 : 2 ≤ n) (hn : n ≤ 4096) (hi : ¬ i < half n) : upL i n s p = nodeL (p.getLastD 0) (upL (i - half n) (n - half n) s p.dropLast) := by
  rw [upL, dif_pos ⟨h2, half_lt h2 hn⟩, if_neg hi]
theorem upL_one {i n : Nat} {s : Int} {p : List Int} (h : ¬ 2 ≤ n) : upL i n s p = s := by rw [upL, dif_neg (by omega)]
theorem vld_upL {i n : Nat} {s : Int} {p : List Int} (hs : vld s = true) (hn : n ≤ 4096) : vld (upL i n s p) = true := by
  by_cases h2 : 2 ≤ n
  · by_cases hi : i < half n
    · rw [upL_left h2 hn hi]; exact vld_node _ _
    · rw [upL_right h2 hn hi]; exact vld_node _ _
  · rw [upL_one h2]; exact hs
/-- what is there is proved -/
theorem up_way (N : Nat) : ∀ (xs : List Int) (i : Nat) (z : Int), xs.length ≤ N → xs.length ≤ 4096 → xs[i]? = some z → upL i xs.length z (wayL xs i) = ofL xs := by
  induction N with
  | zero =>
    intro xs i z h hn hz
    have : xs = [] := List.eq_nil_of_length_eq_zero (by omega)
    subst this
    simp at hz
  | succ N ih =>
    intro xs i z h hn hz
    have hil : i < xs.length := (List.getElem?_eq_some_iff.1 hz).1
    by_cases h2 : 2 ≤ xs.length
    · have h3 := half_lt h2 hn
      have h4 := half_pos xs.length
      by_cases hi : i < half xs.length
      · rw [wayL_left h2 hn hi, upL_left h2 hn hi, List.dropLast_concat, ofL_node h2 hn]
        have := ih (xs.take (half xs.length)) i z (by rw [List.length_take]; omega) (by rw [List.length_take]; omega) (by rw [List.getElem?_take, if_pos hi]; exact hz)
        rw [List.length_take, Nat.min_eq_left (by omega)] at this
        rw [this]
        simp
      · rw [wayL_right h2 hn hi, upL_right h2 hn hi, List.dropLast_concat, ofL_node h2 hn]
        have := ih (xs.drop (half xs.length)) (i - half xs.length) z (by rw [List.length_drop]; omega) (by rw [List.length_drop]; omega) (by rw [List.getElem?_drop]; rw [show half xs.length + (i - half xs.length) = i by omega]; exact hz)
        rw [List.length_drop] at this
        rw [this]
        simp
    · have hx : xs.length = 1 := by omega
      obtain ⟨x, rfl⟩ := List.length_eq_one_iff.1 hx
      have : i = 0 := by simpa using hil
      subst this
      rw [upL_one h2, ofL_one]
      simpa using hz.symm

/-- what is wrong with a proof -/
def pcheck (want n i s : Int) (p : List Int) : Int :=
  if ¬ (0 ≤ i ∧ i < n ∧ n ≤ 200) then 1
  else if ¬ (vld want = true ∧ vld s = true ∧ allV p = true) then 1
  else if p.length ≠ stepsN i.toNat n.toNat then 3
  else if upL i.toNat n.toNat s p ≠ want then 8
  else 0
theorem pcheck_range {want n i s : Int} {p : List Int} (h : ¬ (0 ≤ i ∧ i < n ∧ n ≤ 200)) : pcheck want n i s p = 1 := by unfold pcheck; rw [if_pos h]
theorem pcheck_vld {want n i s : Int} {p : List Int} (h : 0 ≤ i ∧ i < n ∧ n ≤ 200) (h2 : ¬ (vld want = true ∧ vld s = true ∧ allV p = true)) : pcheck want n i s p = 1 := by
  unfold pcheck; rw [if_neg (not_not_intro h), if_pos h2]
theorem pcheck_len {want n i s : Int} {p : List Int} (h : 0 ≤ i ∧ i < n ∧ n ≤ 200) (h2 : vld want = true ∧ vld s = true ∧ allV p = true) (h3 : p.length ≠ stepsN i.toNat n.toNat) : pcheck want n i s p = 3 := by
  unfold pcheck; rw [if_neg (not_not_intro h), if_neg (not_not_intro h2), if_pos h3]
theorem pcheck_root {want n i s : Int} {p : List Int} (h : 0 ≤ i ∧ i < n ∧ n ≤ 200) (h2 : vld want = true ∧ vld s = true ∧ allV p = true) (h3 : p.length = stepsN i.toNat n.toNat) (h4 : upL i.toNat n.toNat s p ≠ want) : pcheck want n i s p = 8 := by
  unfold pcheck; rw [if_neg (not_not_intro h), if_neg (not_not_intro h2), if_neg (not_not_intro h3), if_pos h4]
theorem pcheck_ok {want n i s : Int} {p : List Int} (h : 0 ≤ i ∧ i < n ∧ n ≤ 200) (h2 : vld want = true ∧ vld s = true ∧ allV p = true) (h3 : p.length = stepsN i.toNat n.toNat) (h4 : upL i.toNat n.toNat s p = want) : pcheck want n i s p = 0 := by
  unfold pcheck; rw [if_neg (not_not_intro h), if_neg (not_not_intro h2), if_neg (not_not_intro h3), if_neg (not_not_intro h4)]
theorem pcheck_zero {want n i s : Int} {p : List Int} (h : pcheck want n i s p = 0) : (0 ≤ i ∧ i < n ∧ n ≤ 200) ∧ (vld want = true ∧ vld s = true ∧ allV p = true) ∧ p.length = stepsN i.toNat n.toNat ∧ upL i.toNat n.toNat s p = want := by
  by_cases a : 0 ≤ i ∧ i < n ∧ n ≤ 200
  · by_cases b : vld want = true ∧ vld s = true ∧ allV p = true
    · by_cases c : p.length = stepsN i.toNat n.toNat
      · by_cases d : upL i.toNat n.toNat s p = want
        · exact ⟨a, b, c, d⟩
        · rw [pcheck_root a b c d] at h; cases h
      · rw [pcheck_len a b c] at h; cases h
    · rw [pcheck_vld a b] at h; cases h
  · rw [pcheck_range a] at h; cases h
theorem allV_way (N : Nat) : ∀ (xs : List Int) (i : Nat), xs.length ≤ N → xs.length ≤ 4096 → allV xs = true → allV (wayL xs i) = true := by
  induction N with
  | zero => intro xs i h hn hv; rw [wayL_one (by omega)]; rfl
  | succ N ih =>
    intro xs i h hn hv
    by_cases h2 : 2 ≤ xs.length
    · have h3 := half_lt h2 hn
      have h4 := half_pos xs.length
      by_cases hi : i < half xs.length
      · rw [wayL_left h2 hn hi, allV_append, ih _ _ (by rw [List.length_take]; omega) (by rw [List.length_take]; omega) (allV_take hv _)]
        simp [allV, vld_ofL (allV_drop hv (half xs.length)) (by rw [List.length_drop]; omega)]
      · rw [wayL_right h2 hn hi, allV_append, ih _ _ (by rw [List.length_drop]; omega) (by rw [List.length_drop]; omega) (allV_drop hv _)]
        simp [allV, vld_ofL (allV_take hv (half xs.length)) (by rw [List.length_take]; omega)]
    · rw [wayL_one h2]; rfl
end Go.Proofs.YtmknpehjncpekaaDoor
