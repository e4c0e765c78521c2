/- lists laid over one another, plain. -/
import Derived.Test.YtnafegofmbhahaaDoorLast
namespace Go.Proofs.YtnafegofmbhahaaDoor
open Go.RowKit
set_option linter.unusedVariables false

def addL (out : List Pr) (p : Pr) : List Pr := if hasB out p.key = true then out else insL out (lowN out p.key) p
def mergeL (ls : List (List Pr)) : List Pr := ls.flatten.foldl addL []
def liveL (ls : List (List Pr)) : List Pr := (mergeL ls).filter fun p => !p.gone
def lookLs : List (List Pr) → ByteArray → Option Pr
  | [], _ => none
  | l :: ls, key => (getE l key).or (lookLs ls key)
/-- what one can get of a pair -/
def vis : Option Pr → Option ByteArray
  | some p => if p.gone = true then none else some p.value
  | none => none
theorem addL_put {out : List Pr} {p : Pr} (h : hasB out p.key = false) : addL out p = putL out p := by
  unfold addL putL
  rw [h]
  rfl
theorem addL_asc {out : List Pr} (h : Asc out) (p : Pr) : Asc (addL out p) := by
  cases hb : hasB out p.key with
  | true => unfold addL; rw [if_pos hb]; exact h
  | false => rw [addL_put hb]; exact putL_asc h p
theorem addL_mem {out : List Pr} (h : Asc out) {p q : Pr} (hq : q ∈ addL out p) : q = p ∨ q ∈ out := by
  cases hb : hasB out p.key with
  | true => unfold addL at hq; rw [if_pos hb] at hq; exact .inr hq
  | false => rw [addL_put hb] at hq; exact putL_mem h p hq
theorem addL_get {out : List Pr} (h : Asc out) (p : Pr) (key : ByteArray) : getE (addL out p) key = (getE out key).or (if p.key = key then some p else none) := by
  cases hb : hasB out p.key with
  | true =>
    unfold addL
    rw [if_pos hb]
    by_cases hk : p.key = key
    · subst hk
      have h1 : (getE out p.key).isSome = true := by rw [getE_has, hb]
      cases hg : getE out p.key with
      | none => rw [hg] at h1; cases h1
      | some q => rfl
    · rw [if_neg hk]; simp
  | false =>
    rw [addL_put hb, get_put h]
    by_cases hk : p.key = key
    · subst hk
      have h1 : (getE out p.key).isSome = false := by rw [getE_has, hb]
      rw [if_pos rfl, if_pos rfl]
      cases hg : getE out p.key with
      | none => rfl
      | some q => rw [hg] at h1; cases h1
    · rw [if_neg hk, if_neg hk]; simp
theorem fold_asc : ∀ (ps acc : List Pr), Asc acc → Asc (ps.foldl addL acc)
  | [], acc, h => h
  | p :: ps, acc, h => fold_asc ps (addL acc p) (addL_asc h p)
theorem fold_mem : ∀ (ps acc : List Pr), Asc acc → ∀ q ∈ ps.foldl addL acc, q ∈ ps ∨ q ∈ acc
  | [], acc, h, q, hq => .inr hq
  | p :: ps, acc, h, q, hq => by
    rcases fold_mem ps (addL acc p) (addL_asc h p) q hq with h1 | h1
    · exact .inl (List.mem_cons_of_mem _ h1)
    · rcases addL_mem h h1 with rfl | h2
      · exact .inl (List.mem_cons_self ..)
      · exact .inr h2
theorem fold_get : ∀ (ps acc : List Pr) (key : ByteArray), Asc acc → getE (ps.foldl addL acc) key = (getE acc key).or (ps.find? fun p => decide (p.key = key))
  | [], acc, key, h => by simp
  | p :: ps, acc, key, h => by
    rw [List.foldl_cons, fold_get ps (addL acc p) key (addL_asc h p), addL_get h, Option.or_assoc]
    congr 1
    by_cases hk : p.key = key
    · rw [if_pos hk, List.find?_cons_of_pos (by simpa using hk)]; rfl
    · rw [if_neg hk, List.find?_cons_of_neg (by simpa using hk)]; rfl
theorem find_getE {l : List Pr} (h : Asc l) (key : ByteArray) : (l.find? fun p => decide (p.key = key)) = getE l key := by
  refine opt_ext fun q => ?_
  rw [getE_iff h]
  constructor
  · intro hq
    have h1 : decide (q.key = key) = true := by simpa using List.find?_some hq
    obtain ⟨i, hi⟩ := List.getElem?_of_mem (List.mem_of_find?_eq_some hq)
    exact ⟨i, hi, of_decide_eq_true h1⟩
  · rintro ⟨i, hi, hk⟩
    cases hf : l.find? (fun p => decide (p.key = key)) with
    | none =>
      rw [List.find?_eq_none] at hf
      exact absurd (decide_eq_true hk) (hf q (List.mem_of_getElem? hi))
    | some r =>
      have h0 : decide (r.key = key) = true := by simpa using List.find?_some hf
      have h1 := of_decide_eq_true h0
      obtain ⟨j, hj⟩ := List.getElem?_of_mem (List.mem_of_find?_eq_some hf)
      have e : i = j := (low_eq h hi hk).symm.trans (low_eq h hj h1)
      subst e
      rw [hi] at hj
      exact hj.symm
theorem find_flat : ∀ {ls : List (List Pr)} (h : ∀ l ∈ ls, Asc l) (key : ByteArray), (ls.flatten.find? fun p => decide (p.key = key)) = lookLs ls key
  | [], h, key => rfl
  | l :: ls, h, key => by
    rw [List.flatten_cons, List.find?_append, find_getE (h l (List.mem_cons_self ..)), find_flat (fun m hm => h m (List.mem_cons_of_mem _ hm))]
    rfl
theorem merge_asc (ls : List (List Pr)) : Asc (mergeL ls) := fold_asc _ _ Asc.nil
theorem merge_get {ls : List (List Pr)} (h : ∀ l ∈ ls, Asc l) (key : ByteArray) : getE (mergeL ls) key = lookLs ls key := by
  unfold mergeL
  rw [fold_get _ _ _ Asc.nil, find_flat h]
  rfl
theorem filter_asc (f : Pr → Bool) : ∀ {l : List Pr}, Asc l → Asc (l.filter f)
  | [], h => h
  | p :: l, h => by
    have ih := filter_asc f h.tail
    cases hf : f p with
    | false => rw [List.filter_cons_of_neg (by rw [hf]; decide)]; exact ih
    | true =>
      rw [List.filter_cons_of_pos hf]
      intro i j a b ha hb hij
      cases j with
      | zero => omega
      | succ j =>
        have hb' : (l.filter f)[j]? = some b := by simpa using hb
        cases i with
        | zero =>
          obtain rfl : p = a := by simpa using ha
          have hm := (List.mem_filter.1 (List.mem_of_getElem? hb')).1
          obtain ⟨t, ht⟩ := List.getElem?_of_mem hm
          exact h 0 (t + 1) p b rfl (by simpa using ht) (by omega)
        | succ i => exact ih i j a b (by simpa using ha) hb' (by omega)
theorem filter_get (f : Pr → Bool) {l : List Pr} (h : Asc l) (key : ByteArray) : getE (l.filter f) key = (getE l key).filter f := by
  refine opt_ext fun q => ?_
  rw [getE_iff (filter_asc f h), Option.filter_eq_some_iff, getE_iff h]
  constructor
  · rintro ⟨i, hi, hk⟩
    have hm := List.mem_filter.1 (List.mem_of_getElem? hi)
    obtain ⟨t, ht⟩ := List.getElem?_of_mem hm.1
    exact ⟨⟨t, ht, hk⟩, hm.2⟩
  · rintro ⟨⟨t, ht, hk⟩, hf⟩
    have hm : q ∈ l.filter f := List.mem_filter.2 ⟨List.mem_of_getElem? ht, hf⟩
    obtain ⟨i, hi⟩ := List.getElem?_of_mem hm
    exact ⟨i, hi, hk⟩
theorem live_asc (ls : List (List Pr)) : Asc (liveL ls) := filter_asc _ (merge_asc ls)
theorem live_get {ls : List (List Pr)} (h : ∀ l ∈ ls, Asc l) (key : ByteArray) : getE (liveL ls) key = (lookLs ls key).filter fun p => !p.gone := by
  unfold liveL
  rw [filter_get _ (merge_asc ls), merge_get h]
theorem vis_filter (o : Option Pr) : vis (o.filter fun p => !p.gone) = vis o := by
  cases o with
  | none => rfl
  | some p =>
    obtain ⟨k, v, g⟩ := p
    cases g <;> rfl
theorem live_mem {ls : List (List Pr)} {q : Pr} (h : q ∈ liveL ls) : (∃ l ∈ ls, q ∈ l) ∧ q.gone = false := by
  have hm := List.mem_filter.1 h
  refine ⟨?_, by simpa using hm.2⟩
  rcases fold_mem _ _ Asc.nil q hm.1 with h1 | h1
  · rw [List.mem_flatten] at h1
    exact h1
  · simp at h1
/-- two lists in order that tell the same are one -/
theorem asc_ext : ∀ {a b : List Pr}, Asc a → Asc b → (∀ key, getE a key = getE b key) → a = b
  | [], [], _, _, _ => rfl
  | [], q :: b, _, hb, h => by
    have h1 := (getE_iff hb (key := q.key)).2 ⟨0, rfl, rfl⟩
    rw [← h] at h1
    have := (getE_iff Asc.nil).1 h1
    simp at this
  | p :: a, [], ha, _, h => by
    have h1 := (getE_iff ha (key := p.key)).2 ⟨0, rfl, rfl⟩
    rw [h] at h1
    have := (getE_iff Asc.nil).1 h1
    simp at this
  | p :: a, q :: b, ha, hb, h => by
    have h1 := (getE_iff ha (key := p.key)).2 ⟨0, rfl, rfl⟩
    have h2 := (getE_iff hb (key := q.key)).2 ⟨0, rfl, rfl⟩
    rw [h] at h1
    rw [← h] at h2
    obtain ⟨i, hi, _⟩ := (getE_iff hb).1 h1
    obtain ⟨j, hj, _⟩ := (getE_iff ha).1 h2
    have e : p = q := by
      cases i with
      | zero => exact (by simpa using hi : q = p).symm
      | succ i =>
        cases j with
        | zero => simpa using hj
        | succ j =>
          have k1 := hb 0 (i + 1) q p rfl hi (by omega)
          have k2 := ha 0 (j + 1) p q rfl hj (by omega)
          rw [kLt_asymm k1] at k2
          cases k2
    subst e
    refine congrArg (p :: ·) (asc_ext ha.tail hb.tail fun key => opt_ext fun r => ?_)
    have hh := h key
    rw [getE_iff ha.tail, getE_iff hb.tail]
    constructor
    · rintro ⟨t, ht, hk⟩
      have h3 := (getE_iff ha (key := key)).2 ⟨t + 1, by simpa using ht, hk⟩
      rw [hh] at h3
      obtain ⟨s, hs, hk2⟩ := (getE_iff hb).1 h3
      cases s with
      | zero =>
        obtain rfl : p = r := by simpa using hs
        have := ha 0 (t + 1) p p rfl (by simpa using ht) (by omega)
        rw [kLt_irrefl] at this; cases this
      | succ s => exact ⟨s, by simpa using hs, hk2⟩
    · rintro ⟨t, ht, hk⟩
      have h3 := (getE_iff hb (key := key)).2 ⟨t + 1, by simpa using ht, hk⟩
      rw [← hh] at h3
      obtain ⟨s, hs, hk2⟩ := (getE_iff ha).1 h3
      cases s with
      | zero =>
        obtain rfl : p = r := by simpa using hs
        have := hb 0 (t + 1) p p rfl (by simpa using ht) (by omega)
        rw [kLt_irrefl] at this; cases this
      | succ s => exact ⟨s, by simpa using hs, hk2⟩
end Go.Proofs.YtnafegofmbhahaaDoor
