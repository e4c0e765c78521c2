/- A store's list, plain: what is put, what is there. -/
import Derived.Test.YtnafegofmbhahaaDoorOrd
namespace Go.Proofs.YtnafegofmbhahaaDoor
open Go.RowKit
set_option linter.unusedVariables false

theorem low_eq {es : List Pr} (ho : Asc es) {i : Nat} {p : Pr} {key : ByteArray} (h : es[i]? = some p) (hk : p.key = key) : lowN es key = i := by
  subst hk
  have hi : i < es.length := (List.getElem?_eq_some_iff.1 h).1
  refine lowN_border (Nat.le_of_lt hi) (fun t q ht hq => ho t i q p hq h ht) (fun t q ht hq => ?_)
  rcases Nat.lt_or_eq_of_le ht with h1 | h1
  · exact kLt_asymm (ho i t p q h hq h1)
  · subst h1
    rw [h] at hq
    injection hq with hq
    subst hq
    exact kLt_irrefl _
theorem has_get {es : List Pr} {key : ByteArray} (h : hasB es key = true) : ∃ p, es[lowN es key]? = some p ∧ p.key = key := by
  unfold hasB at h
  cases hq : es[lowN es key]? with
  | none => rw [hq] at h; cases h
  | some p => rw [hq] at h; exact ⟨p, rfl, of_decide_eq_true h⟩
theorem has_of {es : List Pr} (ho : Asc es) {i : Nat} {p : Pr} {key : ByteArray} (h : es[i]? = some p) (hk : p.key = key) : hasB es key = true := by
  unfold hasB
  rw [low_eq ho h hk, h]
  exact decide_eq_true hk
theorem has_none {es : List Pr} (ho : Asc es) {key : ByteArray} (hb : hasB es key = false) {i : Nat} {p : Pr} (h : es[i]? = some p) : p.key ≠ key := fun hk => by
  rw [has_of ho h hk] at hb; cases hb
/-- the pair of a key -/
def getE (es : List Pr) (key : ByteArray) : Option Pr := if hasB es key = true then es[lowN es key]? else none
theorem getE_iff {es : List Pr} (ho : Asc es) {key : ByteArray} {p : Pr} : getE es key = some p ↔ ∃ i : Nat, es[i]? = some p ∧ p.key = key := by
  constructor
  · intro h
    unfold getE at h
    split at h
    · rename_i hb
      obtain ⟨q, hq, hk⟩ := has_get hb
      rw [hq] at h
      injection h with h
      subst h
      exact ⟨_, hq, hk⟩
    · cases h
  · rintro ⟨i, h, hk⟩
    unfold getE
    rw [if_pos (has_of ho h hk), low_eq ho h hk, h]
theorem getE_has {es : List Pr} {key : ByteArray} : (getE es key).isSome = hasB es key := by
  unfold getE
  cases hb : hasB es key with
  | false => rfl
  | true =>
    obtain ⟨q, hq, _⟩ := has_get hb
    rw [if_pos rfl, hq]; rfl

def insL (es : List Pr) (lo : Nat) (p : Pr) : List Pr := es.take lo ++ p :: es.drop lo
theorem ins_get {es : List Pr} {lo : Nat} (h : lo ≤ es.length) (p : Pr) (i : Nat) : (insL es lo p)[i]? = if i < lo then es[i]? else if i = lo then some p else es[i - 1]? := by
  have hl : (es.take lo).length = lo := by rw [List.length_take]; omega
  unfold insL
  by_cases h1 : i < lo
  · rw [if_pos h1, List.getElem?_append_left (by omega), List.getElem?_take, if_pos h1]
  · rw [if_neg h1, List.getElem?_append_right (by omega), hl]
    by_cases h2 : i = lo
    · subst h2
      rw [if_pos rfl, Nat.sub_self]; rfl
    · rw [if_neg h2, show i - lo = (i - 1 - lo) + 1 by omega, List.getElem?_cons_succ, List.getElem?_drop, show lo + (i - 1 - lo) = i - 1 by omega]
theorem ins_len {es : List Pr} {lo : Nat} (h : lo ≤ es.length) (p : Pr) : (insL es lo p).length = es.length + 1 := by
  unfold insL
  rw [List.length_append, List.length_cons, List.length_take, List.length_drop]
  omega
def putL (es : List Pr) (p : Pr) : List Pr := if hasB es p.key = true then es.set (lowN es p.key) p else insL es (lowN es p.key) p
def putK (es : List Pr) (p : Pr) : Int := if keyK p.key ≠ 0 then keyK p.key else if 200 < p.value.size ∨ (hasB es p.key = false ∧ 60 ≤ es.length) then 4 else 0
def storeL (es : List Pr) (p : Pr) : List Pr := if putK es p = 0 then putL es p else es
theorem putL_some {es : List Pr} (ho : Asc es) (p : Pr) {i : Nat} {q : Pr} (h : (putL es p)[i]? = some q) : (q = p ∧ i = lowN es p.key) ∨ (q.key ≠ p.key ∧ ∃ j : Nat, es[j]? = some q ∧ (i < lowN es p.key → j < lowN es p.key) ∧ (lowN es p.key < i → lowN es p.key ≤ j) ∧ i ≠ lowN es p.key) := by
  have hle := lowN_le es p.key
  unfold putL at h
  split at h
  · rename_i hb
    obtain ⟨o, hq, hk⟩ := has_get hb
    by_cases hi : i = lowN es p.key
    · rw [hi, List.getElem?_set_self (List.getElem?_eq_some_iff.1 hq).1] at h
      injection h with h
      exact .inl ⟨h.symm, hi⟩
    · rw [List.getElem?_set_ne (Ne.symm hi)] at h
      refine .inr ⟨fun e => hi (low_eq ho h e).symm, i, h, fun h1 => h1, fun h1 => Nat.le_of_lt h1, hi⟩
  · rename_i hb
    have hb' : hasB es p.key = false := by cases hc : hasB es p.key with | false => rfl | true => exact absurd hc hb
    rw [ins_get hle] at h
    split at h
    · rename_i h1
      exact .inr ⟨has_none ho hb' h, i, h, fun _ => h1, fun h2 => by omega, by omega⟩
    · rename_i h1
      split at h
      · rename_i h2
        injection h with h
        exact .inl ⟨h.symm, h2⟩
      · rename_i h2
        exact .inr ⟨has_none ho hb' h, i - 1, h, fun h3 => by omega, fun h3 => by omega, h2⟩
theorem putL_self {es : List Pr} (ho : Asc es) (p : Pr) : (putL es p)[lowN es p.key]? = some p := by
  unfold putL
  split
  · rename_i hb
    obtain ⟨o, hq, hk⟩ := has_get hb
    exact List.getElem?_set_self (List.getElem?_eq_some_iff.1 hq).1
  · rw [ins_get (lowN_le _ _), if_neg (Nat.lt_irrefl _), if_pos rfl]
theorem putL_old {es : List Pr} (ho : Asc es) (p : Pr) {i : Nat} {q : Pr} (h : es[i]? = some q) (hne : q.key ≠ p.key) : ∃ j : Nat, (putL es p)[j]? = some q := by
  unfold putL
  split
  · rename_i hb
    obtain ⟨o, hq, hk⟩ := has_get hb
    refine ⟨i, ?_⟩
    rw [List.getElem?_set_ne, h]
    intro e
    rw [e, h] at hq
    injection hq with hq
    subst hq
    exact hne hk
  · by_cases h1 : i < lowN es p.key
    · exact ⟨i, by rw [ins_get (lowN_le _ _), if_pos h1, h]⟩
    · exact ⟨i + 1, by rw [ins_get (lowN_le _ _), if_neg (by omega), if_neg (by omega), Nat.add_sub_cancel, h]⟩
theorem ins_mono {es : List Pr} {lo : Nat} {p : Pr} (hle : lo ≤ es.length) {i j : Nat} {a b : Pr} (ha : (insL es lo p)[i]? = some a) (hb : (insL es lo p)[j]? = some b) (hij : i < j) (hi : i ≠ lo) (hj : j ≠ lo) : ∃ i' j' : Nat, es[i']? = some a ∧ es[j']? = some b ∧ i' < j' := by
  rw [ins_get hle] at ha hb
  by_cases h1 : i < lo
  · rw [if_pos h1] at ha
    by_cases h2 : j < lo
    · rw [if_pos h2] at hb
      exact ⟨i, j, ha, hb, hij⟩
    · rw [if_neg h2, if_neg hj] at hb
      exact ⟨i, j - 1, ha, hb, by omega⟩
  · rw [if_neg h1, if_neg hi] at ha
    rw [if_neg (by omega), if_neg hj] at hb
    exact ⟨i - 1, j - 1, ha, hb, by omega⟩
theorem putL_mono {es : List Pr} (ho : Asc es) (p : Pr) {i j : Nat} {a b : Pr} (ha : (putL es p)[i]? = some a) (hb : (putL es p)[j]? = some b) (hij : i < j) (hi : i ≠ lowN es p.key) (hj : j ≠ lowN es p.key) : ∃ i' j' : Nat, es[i']? = some a ∧ es[j']? = some b ∧ i' < j' := by
  unfold putL at ha hb
  split at ha
  · rename_i h
    rw [if_pos h] at hb
    rw [List.getElem?_set_ne (Ne.symm hi)] at ha
    rw [List.getElem?_set_ne (Ne.symm hj)] at hb
    exact ⟨i, j, ha, hb, hij⟩
  · rename_i h
    rw [if_neg h] at hb
    exact ins_mono (lowN_le _ _) ha hb hij hi hj
theorem putL_asc {es : List Pr} (ho : Asc es) (p : Pr) : Asc (putL es p) := by
  intro i j a b ha hb hij
  obtain ⟨l1, l2⟩ := low_side ho p.key
  rcases putL_some ho p ha with ⟨rfl, rfl⟩ | ⟨na, ja, hja, u1, u2, u3⟩
  · rcases putL_some ho a hb with ⟨rfl, rfl⟩ | ⟨nb, jb, hjb, v1, v2, v3⟩
    · omega
    · have h1 := l2 jb b (v2 hij) hjb
      rcases kLt_total h1 with h2 | h2
      · exact absurd h2 nb
      · exact h2
  · rcases putL_some ho p hb with ⟨rfl, rfl⟩ | ⟨nb, jb, hjb, v1, v2, v3⟩
    · exact l1 ja a (u1 hij) hja
    · obtain ⟨i', j', h1, h2, h3⟩ := putL_mono ho p ha hb hij u3 v3
      exact ho i' j' a b h1 h2 h3
theorem putL_len {es : List Pr} (p : Pr) (h : hasB es p.key = true ∨ es.length < 60) (h60 : es.length ≤ 60) : (putL es p).length ≤ 60 := by
  unfold putL
  split
  · rw [List.length_set]; exact h60
  · rename_i hb
    rw [ins_len (lowN_le _ _)]
    rcases h with h | h
    · exact absurd h hb
    · omega
theorem opt_ext {α : Type} {a b : Option α} (h : ∀ x, a = some x ↔ b = some x) : a = b := by
  cases a with
  | none =>
    cases b with
    | none => rfl
    | some y => exact absurd ((h y).2 rfl) (by simp)
  | some x => exact ((h x).1 rfl).symm
theorem get_put {es : List Pr} (ho : Asc es) (p : Pr) (key : ByteArray) : getE (putL es p) key = if p.key = key then some p else getE es key := by
  refine opt_ext fun q => ?_
  rw [getE_iff (putL_asc ho p)]
  constructor
  · rintro ⟨i, hi, hk⟩
    rcases putL_some ho p hi with ⟨rfl, _⟩ | ⟨hn, j, hj, _⟩
    · rw [if_pos hk]
    · rw [if_neg (fun e => hn (hk.trans e.symm))]
      exact (getE_iff ho).2 ⟨j, hj, hk⟩
  · intro h
    split at h
    · rename_i hk
      injection h with h
      subst h
      exact ⟨_, putL_self ho p, hk⟩
    · rename_i hk
      obtain ⟨i, hi, hqk⟩ := (getE_iff ho).1 h
      obtain ⟨j, hj⟩ := putL_old ho p hi (fun e => hk (e.symm.trans hqk))
      exact ⟨j, hj, hqk⟩
theorem putL_mem {es : List Pr} (ho : Asc es) (p : Pr) {q : Pr} (h : q ∈ putL es p) : q = p ∨ q ∈ es := by
  obtain ⟨i, hi⟩ := List.getElem?_of_mem h
  rcases putL_some ho p hi with ⟨h, _⟩ | ⟨_, j, hj, _⟩
  · exact .inl h
  · exact .inr (List.mem_of_getElem? hj)
theorem lowN_mono {es : List Pr} {a b : ByteArray} (h : a = b ∨ kLt a b = true) : lowN es a ≤ lowN es b := by
  rcases h with rfl | h
  · exact Nat.le_refl _
  · unfold lowN
    refine List.countP_mono_left fun x _ hx => kLt_trans hx h

/-! cells -/
theorem flat_take {α : Type} {f : α → List Value} {k : Nat} (hf : ∀ x, (f x).length = k) : ∀ (l : List α) (n : Nat), (l.flatMap f).take (n * k) = (l.take n).flatMap f
  | [], n => by simp
  | x :: l, 0 => by simp
  | x :: l, n + 1 => by
    rw [List.flatMap_cons, List.take_succ_cons, List.flatMap_cons, ← flat_take hf l n, Nat.succ_mul, Nat.add_comm, List.take_append, List.take_of_length_le (by rw [hf]; omega), hf]
    congr 2
    omega
theorem flat_drop {α : Type} {f : α → List Value} {k : Nat} (hf : ∀ x, (f x).length = k) : ∀ (l : List α) (n : Nat), (l.flatMap f).drop (n * k) = (l.drop n).flatMap f
  | [], n => by simp
  | x :: l, 0 => by simp
  | x :: l, n + 1 => by
    rw [List.flatMap_cons, List.drop_succ_cons, ← flat_drop hf l n, Nat.succ_mul, Nat.add_comm, List.drop_append, List.drop_of_length_le (by rw [hf]; omega), hf, List.nil_append]
    congr 1
    omega
theorem cells_ins (es : List Pr) (lo : Nat) (p : Pr) : (es.flatMap Pr.cells).take (lo * 3) ++ p.cells ++ (es.flatMap Pr.cells).drop (lo * 3) = (insL es lo p).flatMap Pr.cells := by
  unfold insL
  rw [flat_take (f := Pr.cells) (k := 3) (fun _ => rfl), flat_drop (f := Pr.cells) (k := 3) (fun _ => rfl), List.flatMap_append, List.flatMap_cons, List.append_assoc]
theorem cells_set : ∀ (es : List Pr) (i : Nat) (p : Pr), i < es.length → (((es.flatMap Pr.cells).set (i * 3) (.string p.key)).set (i * 3 + 1) (.string p.value)).set (i * 3 + 2) (.bool p.gone) = (es.set i p).flatMap Pr.cells
  | [], i, p, h => by simp at h
  | q :: es, 0, p, _ => by simp [Pr.cells]
  | q :: es, i + 1, p, h => by
    have ih := cells_set es i p (by simpa using h)
    rw [List.set_cons_succ, List.flatMap_cons, List.flatMap_cons, ← ih, show (i + 1) * 3 = i * 3 + 3 by omega, show i * 3 + 3 + 1 = i * 3 + 1 + 3 by omega, show i * 3 + 3 + 2 = i * 3 + 2 + 3 by omega]
    rfl
theorem cells_one (es : List Pr) : ∀ v ∈ es.flatMap Pr.cells, v.oneCell' = true := by
  intro v hv
  rw [List.mem_flatMap] at hv
  obtain ⟨p, _, hp⟩ := hv
  simp only [Pr.cells, List.mem_cons, List.not_mem_nil, or_false] at hp
  rcases hp with rfl | rfl | rfl <;> rfl
end Go.Proofs.YtnafegofmbhahaaDoor
