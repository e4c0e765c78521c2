/- The way up, step by step: plain. -/
import Derived.Test.YtdpfebokbikgfaaDoorPure
namespace Go.Proofs.YtdpfebokbikgfaaDoor
set_option linter.unusedVariables false

theorem byteOf_inj {a b : Int} (ha : 0 ≤ a) (ha' : a < 256) (hb : 0 ≤ b) (hb' : b < 256) (h : byteOf a = byteOf b) : a = b := by
  have h1 := toNat_byteOf a ha ha'
  have h2 := toNat_byteOf b hb hb'
  rw [h] at h1
  omega
theorem fourB_inj {a b : Int} (ha : vld a = true) (hb : vld b = true) (h : fourB a = fourB b) : a = b := by
  have ha := vld_true ha
  have hb := vld_true hb
  unfold fourB at h
  simp only [List.cons.injEq, and_true] at h
  obtain ⟨h1, h2, h3, h4⟩ := h
  have h1 := byteOf_inj (by omega) (by omega) (by omega) (by omega) h1
  have h2 := byteOf_inj (by omega) (by omega) (by omega) (by omega) h2
  have h3 := byteOf_inj (by omega) (by omega) (by omega) (by omega) h3
  have h4 := byteOf_inj (by omega) (by omega) (by omega) (by omega) h4
  omega
theorem nodeB_inj {a b c d : Int} (ha : vld a = true) (hb : vld b = true) (hc : vld c = true) (hd : vld d = true) (h : nodeB a b = nodeB c d) : a = c ∧ b = d := by
  unfold nodeB at h
  injection h with _ h
  obtain ⟨h1, h2⟩ := List.append_inj h rfl
  exact ⟨fourB_inj ha hc h1, fourB_inj hb hd h2⟩

/-- does the k-th sum of a proof stand on the left? -/
def turnL (i n k : Nat) : Bool :=
  if h : 2 ≤ n ∧ half n < n then
    (if i < half n then (if stepsN i (half n) = k then false else turnL i (half n) k)
     else (if stepsN (i - half n) (n - half n) = k then true else turnL (i - half n) (n - half n) k))
  else false
termination_by n
decreasing_by
  · exact h.2
  · have := half_pos n; omega
theorem turnL_left {i n k : Nat} (h2 : 2 ≤ n) (hn : n ≤ 4096) (hi : i < half n) : turnL i n k = if stepsN i (half n) = k then false else turnL i (half n) k := by
  rw [turnL, dif_pos ⟨h2, half_lt h2 hn⟩, if_pos hi]
theorem turnL_right {i n k : Nat} (h2 : 2 ≤ n) (hn : n ≤ 4096) (hi : ¬ i < half n) : turnL i n k = if stepsN (i - half n) (n - half n) = k then true else turnL (i - half n) (n - half n) k := by
  rw [turnL, dif_pos ⟨h2, half_lt h2 hn⟩, if_neg hi]

def stepL (t : Bool) (a b : Int) : Int := if t then nodeL b a else nodeL a b
def stepB (t : Bool) (a b : Int) : List UInt8 := if t then nodeB b a else nodeB a b
theorem stepL_eq (t : Bool) (a b : Int) : stepL t a b = sumL (stepB t a b) := by cases t <;> rfl
theorem vld_stepL (t : Bool) (a b : Int) : vld (stepL t a b) = true := by rw [stepL_eq]; exact vld_sum _
theorem stepB_inj {t : Bool} {a b c d : Int} (ha : vld a = true) (hb : vld b = true) (hc : vld c = true) (hd : vld d = true) (h : stepB t a b = stepB t c d) : a = c ∧ b = d := by
  cases t
  · exact nodeB_inj ha hb hc hd h
  · exact (nodeB_inj hb ha hd hc h).symm

/-- the k-th of numbers -/
def nthI (p : List Int) (k : Nat) : Int := p.getD k 0
theorem nthI_get {p : List Int} {k : Nat} (h : k < p.length) : p[k]? = some (nthI p k) := by unfold nthI; rw [List.getD_eq_getElem?_getD, List.getElem?_eq_getElem h]; rfl
/-- up 'm' steps from the k-th on -/
def upF (t : Nat → Bool) (p : Nat → Int) : Nat → Nat → Int → Int
  | 0, _, a => a
  | m + 1, k, a => upF t p m (k + 1) (stepL (t k) a (p k))
theorem upF_snoc (t : Nat → Bool) (p : Nat → Int) : ∀ (m k : Nat) (a : Int), upF t p (m + 1) k a = stepL (t (k + m)) (upF t p m k a) (p (k + m))
  | 0, k, a => rfl
  | m + 1, k, a => by
    show upF t p (m + 1) (k + 1) _ = _
    rw [upF_snoc t p m (k + 1)]
    show stepL (t (k + 1 + m)) (upF t p (m + 1) k a) _ = _
    rw [show k + 1 + m = k + (m + 1) by omega]
theorem upF_add (t : Nat → Bool) (p : Nat → Int) : ∀ (j m k : Nat) (a : Int), upF t p (j + m) k a = upF t p m (k + j) (upF t p j k a)
  | 0, m, k, a => by rw [Nat.zero_add]; rfl
  | j + 1, m, k, a => by
    rw [show j + 1 + m = (j + m) + 1 by omega]
    show upF t p (j + m) (k + 1) _ = _
    rw [upF_add t p j m (k + 1), show k + 1 + j = k + (j + 1) by omega]
    rfl
theorem upF_congr {t t' : Nat → Bool} {p p' : Nat → Int} : ∀ (m k : Nat) (a : Int), (∀ j, k ≤ j → j < k + m → t j = t' j ∧ p j = p' j) → upF t p m k a = upF t' p' m k a
  | 0, _, _, _ => rfl
  | m + 1, k, a, h => by
    show upF t p m (k + 1) _ = upF t' p' m (k + 1) _
    obtain ⟨h1, h2⟩ := h k (Nat.le_refl _) (by omega)
    rw [h1, h2]
    exact upF_congr m (k + 1) _ fun j hj hj' => h j (by omega) (by omega)
theorem vld_upF (t : Nat → Bool) (p : Nat → Int) : ∀ (m k : Nat) (a : Int), vld a = true → vld (upF t p m k a) = true
  | 0, _, _, h => h
  | m + 1, k, a, _ => vld_upF t p m (k + 1) _ (vld_stepL _ _ _)
theorem dropLast_getD {p : List Int} {j : Nat} (h : j + 1 < p.length) : nthI p.dropLast j = nthI p j := by
  unfold nthI
  rw [List.dropLast_eq_take, List.getD_eq_getElem?_getD, List.getD_eq_getElem?_getD, List.getElem?_take, if_pos (by omega)]
theorem getLastD_getD {p : List Int} {m : Nat} (h : p.length = m + 1) : p.getLastD 0 = nthI p m := by
  unfold nthI
  rw [List.getLastD_eq_getLast?, List.getLast?_eq_getElem?, List.getD_eq_getElem?_getD, h]; rfl
theorem upL_upF (N : Nat) : ∀ (i n : Nat) (s : Int) (p : List Int), n ≤ N → n ≤ 4096 → p.length = stepsN i n → upL i n s p = upF (turnL i n) (nthI p) (stepsN i n) 0 s := by
  induction N with
  | zero => intro i n s p h hn hp; rw [upL_one (by omega), stepsN_one i (by omega)]; rfl
  | succ N ih =>
    intro i n s p h hn hp
    by_cases h2 : 2 ≤ n
    · have h3 := half_lt h2 hn
      have h4 := half_pos n
      by_cases hi : i < half n
      · have hs := stepsN_left h2 hn hi
        have ht : turnL i n (stepsN i (half n)) = false := (turnL_left h2 hn hi).trans (if_pos rfl)
        have hc : upF (turnL i (half n)) (nthI p.dropLast) (stepsN i (half n)) 0 s = upF (turnL i n) (nthI p) (stepsN i (half n)) 0 s :=
          upF_congr _ _ _ fun j _ hj => ⟨((turnL_left h2 hn hi).trans (if_neg (by omega))).symm, dropLast_getD (by omega)⟩
        have hu := ih i (half n) s p.dropLast (by omega) (by omega) (by rw [List.length_dropLast]; omega)
        have hg := getLastD_getD (hp.trans hs)
        have hz := upF_snoc (turnL i n) (nthI p) (stepsN i (half n)) 0 s
        rw [Nat.zero_add, ht] at hz
        rw [upL_left h2 hn hi, hu, hc, hg, hs]
        exact hz.symm
      · have hs := stepsN_right h2 hn hi
        have ht : turnL i n (stepsN (i - half n) (n - half n)) = true := (turnL_right h2 hn hi).trans (if_pos rfl)
        have hc : upF (turnL (i - half n) (n - half n)) (nthI p.dropLast) (stepsN (i - half n) (n - half n)) 0 s = upF (turnL i n) (nthI p) (stepsN (i - half n) (n - half n)) 0 s :=
          upF_congr _ _ _ fun j _ hj => ⟨((turnL_right h2 hn hi).trans (if_neg (by omega))).symm, dropLast_getD (by omega)⟩
        have hu := ih (i - half n) (n - half n) s p.dropLast (by omega) (by omega) (by rw [List.length_dropLast]; omega)
        have hg := getLastD_getD (hp.trans hs)
        have hz := upF_snoc (turnL i n) (nthI p) (stepsN (i - half n) (n - half n)) 0 s
        rw [Nat.zero_add, ht] at hz
        rw [upL_right h2 hn hi, hu, hc, hg, hs]
        exact hz.symm
    · rw [upL_one h2, stepsN_one i h2]; rfl
end Go.Proofs.YtdpfebokbikgfaaDoor
