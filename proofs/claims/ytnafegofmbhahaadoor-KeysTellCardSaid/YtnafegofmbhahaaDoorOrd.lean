/- The order of keys, plain; lists of pairs in that order. -/
import Derived.Test.YtnafegofmbhahaaDoorPairs
namespace Go.Proofs.YtnafegofmbhahaaDoor
open Go.RowKit
set_option linter.unusedVariables false

/-- one key is ahead of another one -/
def kLt (a b : ByteArray) : Bool := Op.bytesLess a.data.toList b.data.toList
theorem bl_irrefl : ∀ a : List UInt8, Op.bytesLess a a = false
  | [] => rfl
  | x :: a => by
    unfold Op.bytesLess
    rw [bl_irrefl a]
    simp
theorem bl_trans : ∀ {a b c : List UInt8}, Op.bytesLess a b = true → Op.bytesLess b c = true → Op.bytesLess a c = true
  | [], [], c, h, _ => by cases h
  | x :: a, [], c, h, _ => by cases h
  | [], y :: b, [], h, k => by cases k
  | x :: a, y :: b, [], h, k => by cases k
  | [], y :: b, z :: c, h, k => rfl
  | x :: a, y :: b, z :: c, h, k => by
    unfold Op.bytesLess at h k ⊢
    simp only [Bool.or_eq_true, Bool.and_eq_true, decide_eq_true_eq, beq_iff_eq] at h k ⊢
    rcases h with h | ⟨rfl, h⟩
    · rcases k with k | ⟨rfl, k⟩
      · exact .inl (UInt8.lt_trans h k)
      · exact .inl h
    · rcases k with k | ⟨rfl, k⟩
      · exact .inl k
      · exact .inr ⟨rfl, bl_trans h k⟩
theorem bl_cmp : ∀ a b : List UInt8, Lib.compareBytes a b = if Op.bytesLess a b = true then -1 else if a = b then 0 else 1
  | [], [] => rfl
  | [], y :: b => by simp [Lib.compareBytes, Op.bytesLess]
  | x :: a, [] => by simp [Lib.compareBytes, Op.bytesLess]
  | x :: a, y :: b => by
    unfold Lib.compareBytes Op.bytesLess
    by_cases h : x < y
    · simp [h]
    · by_cases h2 : y < x
      · have hne : x ≠ y := fun e => h (e ▸ h2)
        simp [h, h2, hne]
      · have he : x = y := UInt8.le_antisymm (UInt8.not_lt.1 h2) (UInt8.not_lt.1 h)
        subst he
        rw [if_neg h, if_neg h, bl_cmp a b]
        simp [h]
theorem bl_total {a b : List UInt8} (h : Op.bytesLess a b = false) : a = b ∨ Op.bytesLess b a = true := by
  induction a generalizing b with
  | nil =>
    cases b with
    | nil => exact .inl rfl
    | cons y b => cases h
  | cons x a ih =>
    cases b with
    | nil => exact .inr rfl
    | cons y b =>
      unfold Op.bytesLess at h ⊢
      simp only [Bool.or_eq_false_iff, Bool.and_eq_false_iff, decide_eq_false_iff_not, Bool.or_eq_true, Bool.and_eq_true, decide_eq_true_eq, beq_iff_eq, beq_eq_false_iff_ne] at h ⊢
      by_cases h2 : y < x
      · exact .inr (.inl h2)
      · have he : x = y := UInt8.le_antisymm (UInt8.not_lt.1 h2) (UInt8.not_lt.1 h.1)
        subst he
        rcases h.2 with h3 | h3
        · exact absurd rfl h3
        · rcases ih h3 with rfl | h4
          · exact .inl rfl
          · exact .inr (.inr ⟨rfl, h4⟩)
theorem kLt_irrefl (a : ByteArray) : kLt a a = false := bl_irrefl _
theorem kLt_trans {a b c : ByteArray} (h : kLt a b = true) (k : kLt b c = true) : kLt a c = true := bl_trans h k
theorem bytes_ext {a b : ByteArray} (h : a.data.toList = b.data.toList) : a = b := by
  obtain ⟨⟨a⟩⟩ := a
  obtain ⟨⟨b⟩⟩ := b
  simp at h
  rw [h]
theorem kLt_total {a b : ByteArray} (h : kLt a b = false) : a = b ∨ kLt b a = true := (bl_total h).imp bytes_ext id
theorem kLt_asymm {a b : ByteArray} (h : kLt a b = true) : kLt b a = false := by
  cases hb : kLt b a with
  | false => rfl
  | true => have := kLt_trans h hb; rw [kLt_irrefl] at this; cases this
theorem kCmp (a b : ByteArray) : Lib.compareBytes a.data.toList b.data.toList = if kLt a b = true then -1 else if a = b then 0 else 1 := by
  rw [bl_cmp]
  unfold kLt
  split
  · rfl
  · by_cases h : a = b
    · rw [if_pos h, if_pos (by rw [h])]
    · rw [if_neg h, if_neg (fun e => h (bytes_ext e))]
theorem kLt_op (a b : ByteArray) : Op.bytesLess a.toList b.toList = kLt a b := by unfold kLt; rw [Lib.toList_data, Lib.toList_data]

/-- in order -/
def Asc (es : List Pr) : Prop := ∀ (i j : Nat) (p q : Pr), es[i]? = some p → es[j]? = some q → i < j → kLt p.key q.key = true
/-- how many are ahead of a key -/
def lowN (es : List Pr) (key : ByteArray) : Nat := es.countP (fun p => kLt p.key key)
def hasB (es : List Pr) (key : ByteArray) : Bool := match es[lowN es key]? with | some p => decide (p.key = key) | none => false
theorem lowN_le (es : List Pr) (key : ByteArray) : lowN es key ≤ es.length := List.countP_le_length
theorem Asc.nil : Asc [] := fun i j p q h => by simp at h
theorem Asc.tail {p : Pr} {es : List Pr} (h : Asc (p :: es)) : Asc es := fun i j a b ha hb hij => h (i + 1) (j + 1) a b (by simpa using ha) (by simpa using hb) (by omega)
/-- where the border lies -/
theorem lowN_border : ∀ {es : List Pr} {key : ByteArray} {i : Nat}, i ≤ es.length → (∀ (t : Nat) (p : Pr), t < i → es[t]? = some p → kLt p.key key = true) → (∀ (t : Nat) (p : Pr), i ≤ t → es[t]? = some p → kLt p.key key = false) → lowN es key = i
  | [], key, i, h, _, _ => by simp at h; subst h; rfl
  | p :: es, key, 0, _, _, h2 => by
    have hp := h2 0 p (by omega) rfl
    have ih := lowN_border (es := es) (key := key) (i := 0) (by omega) (fun t q ht => absurd ht (Nat.not_lt_zero _)) (fun t q ht hq => h2 (t + 1) q (by omega) (by simpa using hq))
    unfold lowN at ih ⊢
    rw [List.countP_cons_of_neg (by rw [hp]; simp), ih]
  | p :: es, key, i + 1, h, h1, h2 => by
    have hp := h1 0 p (by omega) rfl
    have ih := lowN_border (es := es) (key := key) (i := i) (by simpa using h) (fun t q ht hq => h1 (t + 1) q (by omega) (by simpa using hq)) (fun t q ht hq => h2 (t + 1) q (by omega) (by simpa using hq))
    unfold lowN at ih ⊢
    rw [List.countP_cons_of_pos (p := fun p : Pr => kLt p.key key) hp, ih]
theorem lowN_cons (p : Pr) (es : List Pr) (key : ByteArray) : lowN (p :: es) key = lowN es key + if kLt p.key key = true then 1 else 0 := by
  unfold lowN
  rw [List.countP_cons]
theorem low_side : ∀ {es : List Pr} (h : Asc es) (key : ByteArray), (∀ (t : Nat) (p : Pr), t < lowN es key → es[t]? = some p → kLt p.key key = true) ∧ (∀ (t : Nat) (p : Pr), lowN es key ≤ t → es[t]? = some p → kLt p.key key = false)
  | [], _, key => ⟨fun t p h => by simp [lowN] at h, fun t p _ h => by simp at h⟩
  | p :: es, h, key => by
    obtain ⟨i1, i2⟩ := low_side h.tail key
    rw [lowN_cons]
    cases hp : kLt p.key key with
    | true =>
      rw [if_pos rfl]
      refine ⟨fun t q ht hq => ?_, fun t q ht hq => ?_⟩
      · cases t with
        | zero => obtain rfl : p = q := by simpa using hq
                  exact hp
        | succ t => exact i1 t q (by omega) (by simpa using hq)
      · cases t with
        | zero => omega
        | succ t => exact i2 t q (by omega) (by simpa using hq)
    | false =>
      rw [if_neg (by decide)]
      have hz : ∀ (t : Nat) (q : Pr), es[t]? = some q → kLt q.key key = false := fun t q hq => by
        have h1 := h 0 (t + 1) p q rfl (by simpa using hq) (by omega)
        cases hqk : kLt q.key key with
        | false => rfl
        | true => rw [kLt_trans h1 hqk] at hp; cases hp
      have h0 : lowN es key = 0 := lowN_border (Nat.zero_le _) (fun t q ht => absurd ht (Nat.not_lt_zero _)) (fun t q _ hq => hz t q hq)
      rw [h0]
      refine ⟨fun t q ht => absurd ht (Nat.not_lt_zero _), fun t q ht hq => ?_⟩
      cases t with
      | zero => obtain rfl : p = q := by simpa using hq
                exact hp
      | succ t => exact hz t q (by simpa using hq)
end Go.Proofs.YtnafegofmbhahaaDoor
