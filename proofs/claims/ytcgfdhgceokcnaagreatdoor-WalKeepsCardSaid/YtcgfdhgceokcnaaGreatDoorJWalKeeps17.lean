/- lists laid over one another, plain. -/
import Derived.Test.YtcgfdhgceokcnaaGreatDoorJWalKeeps16
import Derived.Test.YtcgfdhgceokcnaaGreatDoorJWalKeeps14
import Derived.Lib.AppendStr
namespace Go.Proofs.YtcgfdhgceokcnaaGreatDoor
open Go.RowKit
set_option linter.unusedVariables false

def addL (out : List Pr) (p : Pr) : List Pr := if hasB out p.key = true then out else insL out (lowN out p.key) p
def mergeL (ls : List (List Pr)) : List Pr := ls.flatten.foldl addL []
def liveL (ls : List (List Pr)) : List Pr := (mergeL ls).filter fun p => !p.gone
def lookLs : List (List Pr) → ByteArray → Option Pr
  | [], _ => none
  | l :: ls, key => (getE l key).or (lookLs ls key)
/-- what one can get of a pair -/
def vis : Option Pr → Option ByteArray
  | some p => if p.gone = true then none else some p.value
  | none => none
theorem addL_put {out : List Pr} {p : Pr} (h : hasB out p.key = false) : addL out p = putL out p := by
  unfold addL putL
  rw [h]
  rfl
theorem addL_asc {out : List Pr} (h : Asc out) (p : Pr) : Asc (addL out p) := by
  cases hb : hasB out p.key with
  | true => unfold addL; rw [if_pos hb]; exact h
  | false => rw [addL_put hb]; exact putL_asc h p
theorem addL_mem {out : List Pr} (h : Asc out) {p q : Pr} (hq : q ∈ addL out p) : q = p ∨ q ∈ out := by
  cases hb : hasB out p.key with
  | true => unfold addL at hq; rw [if_pos hb] at hq; exact .inr hq
  | false => rw [addL_put hb] at hq; exact putL_mem h p hq
theorem addL_get {out : List Pr} (h : Asc out) (p : Pr) (key : ByteArray) : getE (addL out p) key = (getE out key).or (if p.key = key then some p else none) := by
  cases hb : hasB out p.key with
  | true =>
    unfold addL
    rw [if_pos hb]
    by_cases hk : p.key = key
    · subst hk
      have h1 : (getE out p.key).isSome = true := by rw [getE_has, hb]
      cases hg : getE out p.key with
      | none => rw [hg] at h1; cases h1
      | some q => rfl
    · rw [if_neg hk]; simp
  | false =>
    rw [addL_put hb, get_put h]
    by_cases hk : p.key = key
    · subst hk
      have h1 : (getE out p.key).isSome = false := by rw [getE_has, hb]
      rw [if_pos rfl, if_pos rfl]
      cases hg : getE out p.key with
      | none => rfl
      | some q => rw [hg] at h1; cases h1
    · rw [if_neg hk, if_neg hk]; simp
theorem fold_asc : ∀ (ps acc : List Pr), Asc acc → Asc (ps.foldl addL acc)
  | [], acc, h => h
  | p :: ps, acc, h => fold_asc ps (addL acc p) (addL_asc h p)
theorem fold_mem : ∀ (ps acc : List Pr), Asc acc → ∀ q ∈ ps.foldl addL acc, q ∈ ps ∨ q ∈ acc
  | [], acc, h, q, hq => .inr hq
  | p :: ps, acc, h, q, hq => by
    rcases fold_mem ps (addL acc p) (addL_asc h p) q hq with h1 | h1
    · exact .inl (List.mem_cons_of_mem _ h1)
    · rcases addL_mem h h1 with rfl | h2
      · exact .inl (List.mem_cons_self ..)
      · exact .inr h2
theorem fold_get : ∀ (ps acc : List Pr) (key : ByteArray), Asc acc → getE (ps.foldl addL acc) key = (getE acc key).or (ps.find? fun p => decide (p.key = key))
  | [], acc, key, h => by simp
  | p :: ps, acc, key, h => by
    rw [List.foldl_cons, fold_get ps (addL acc p) key (addL_asc h p), addL_get h, Option.or_assoc]
    congr 1
    by_cases hk : p.key = key
    · rw [if_pos hk, List.find?_cons_of_pos (by simpa using hk)]; rfl
    · rw [if_neg hk, List.find?_cons_of_neg (by simpa using hk)]; rfl
theorem find_getE {l : List Pr} (h : Asc l) (key : ByteArray) : (l.find? fun p => decide (p.key = key)) = getE l key := by
  refine opt_ext fun q => ?_
  rw [getE_iff h]
  constructor
  · intro hq
    have h1 : decide (q.key = key) = true := by simpa using List.find?_some hq
    obtain ⟨i, hi⟩ := List.getElem?_of_mem (List.mem_of_find?_eq_some hq)
    exact ⟨i, hi, of_decide_eq_true h1⟩
  · rintro ⟨i, hi, hk⟩
    cases hf : l.find? (fun p => decide (p.key = key)) with
    | none =>
      rw [List.find?_eq_none] at hf
      exact absurd (decide_eq_true hk) (hf q (List.mem_of_getElem? hi))
    | some r =>
      have h0 : decide (r.key = key) = true := by simpa using List.find?_some hf
      have h1 := of_decide_eq_true h0
      obtain ⟨j, hj⟩ := List.getElem?_of_mem (List.mem_of_find?_eq_some hf)
      have e : i = j := (low_eq h hi hk).symm.trans (low_eq h hj h1)
      subst e
      rw [hi] at hj
      exact hj.symm
theorem find_flat : ∀ {ls : List (List Pr)} (h : ∀ l ∈ ls, Asc l) (key : ByteArray), (ls.flatten.find? fun p => decide (p.key = key)) = lookLs ls key
  | [], h, key => rfl
  | l :: ls, h, key => by
    rw [List.flatten_cons, List.find?_append, find_getE (h l (List.mem_cons_self ..)), find_flat (fun m hm => h m (List.mem_cons_of_mem _ hm))]
    rfl
theorem merge_asc (ls : List (List Pr)) : Asc (mergeL ls) := fold_asc _ _ Asc.nil
theorem merge_get {ls : List (List Pr)} (h : ∀ l ∈ ls, Asc l) (key : ByteArray) : getE (mergeL ls) key = lookLs ls key := by
  unfold mergeL
  rw [fold_get _ _ _ Asc.nil, find_flat h]
  rfl
theorem filter_asc (f : Pr → Bool) : ∀ {l : List Pr}, Asc l → Asc (l.filter f)
  | [], h => h
  | p :: l, h => by
    have ih := filter_asc f h.tail
    cases hf : f p with
    | false => rw [List.filter_cons_of_neg (by rw [hf]; decide)]; exact ih
    | true =>
      rw [List.filter_cons_of_pos hf]
      intro i j a b ha hb hij
      cases j with
      | zero => omega
      | succ j =>
        have hb' : (l.filter f)[j]? = some b := by simpa using hb
        cases i with
        | zero =>
          obtain rfl : p = a := by simpa using ha
          have hm := (List.mem_filter.1 (List.mem_of_getElem? hb')).1
          obtain ⟨t, ht⟩ := List.getElem?_of_mem hm
          exact h 0 (t + 1) p b rfl (by simpa using ht) (by omega)
        | succ i => exact ih i j a b (by simpa using ha) hb' (by omega)
theorem filter_get (f : Pr → Bool) {l : List Pr} (h : Asc l) (key : ByteArray) : getE (l.filter f) key = (getE l key).filter f := by
  refine opt_ext fun q => ?_
  rw [getE_iff (filter_asc f h), Option.filter_eq_some_iff, getE_iff h]
  constructor
  · rintro ⟨i, hi, hk⟩
    have hm := List.mem_filter.1 (List.mem_of_getElem? hi)
    obtain ⟨t, ht⟩ := List.getElem?_of_mem hm.1
    exact ⟨⟨t, ht, hk⟩, hm.2⟩
  · rintro ⟨⟨t, ht, hk⟩, hf⟩
    have hm : q ∈ l.filter f := List.mem_filter.2 ⟨List.mem_of_getElem? ht, hf⟩
    obtain ⟨i, hi⟩ := List.getElem?_of_mem hm
    exact ⟨i, hi, hk⟩
theorem live_asc (ls : List (List Pr)) : Asc (liveL ls) := filter_asc _ (merge_asc ls)
theorem live_get {ls : List (List Pr)} (h : ∀ l ∈ ls, Asc l) (key : ByteArray) : getE (liveL ls) key = (lookLs ls key).filter fun p => !p.gone := by
  unfold liveL
  rw [filter_get _ (merge_asc ls), merge_get h]
theorem vis_filter (o : Option Pr) : vis (o.filter fun p => !p.gone) = vis o := by
  cases o with
  | none => rfl
  | some p =>
    obtain ⟨k, v, g⟩ := p
    cases g <;> rfl
theorem live_mem {ls : List (List Pr)} {q : Pr} (h : q ∈ liveL ls) : (∃ l ∈ ls, q ∈ l) ∧ q.gone = false := by
  have hm := List.mem_filter.1 h
  refine ⟨?_, by simpa using hm.2⟩
  rcases fold_mem _ _ Asc.nil q hm.1 with h1 | h1
  · rw [List.mem_flatten] at h1
    exact h1
  · simp at h1
/-- two lists in order that tell the same are one -/
theorem asc_ext : ∀ {a b : List Pr}, Asc a → Asc b → (∀ key, getE a key = getE b key) → a = b
  | [], [], _, _, _ => rfl
  | [], q :: b, _, hb, h => by
    have h1 := (getE_iff hb (key := q.key)).2 ⟨0, rfl, rfl⟩
    rw [← h] at h1
    have := (getE_iff Asc.nil).1 h1
    simp at this
  | p :: a, [], ha, _, h => by
    have h1 := (getE_iff ha (key := p.key)).2 ⟨0, rfl, rfl⟩
    rw [h] at h1
    have := (getE_iff Asc.nil).1 h1
    simp at this
  | p :: a, q :: b, ha, hb, h => by
    have h1 := (getE_iff ha (key := p.key)).2 ⟨0, rfl, rfl⟩
    have h2 := (getE_iff hb (key := q.key)).2 ⟨0, rfl, rfl⟩
    rw [h] at h1
    rw [← h] at h2
    obtain ⟨i, hi, _⟩ := (getE_iff hb).1 h1
    obtain ⟨j, hj, _⟩ := (getE_iff ha).1 h2
    have e : p = q := by
      cases i with
      | zero => exact (by simpa using hi : q = p).symm
      | succ i =>
        cases j with
        | zero => simpa using hj
        | succ j =>
          have k1 := hb 0 (i + 1) q p rfl hi (by omega)
          have k2 := ha 0 (j + 1) p q rfl hj (by omega)
          rw [kLt_asymm k1] at k2
          cases k2
    subst e
    refine congrArg (p :: ·) (asc_ext ha.tail hb.tail fun key => opt_ext fun r => ?_)
    have hh := h key
    rw [getE_iff ha.tail, getE_iff hb.tail]
    constructor
    · rintro ⟨t, ht, hk⟩
      have h3 := (getE_iff ha (key := key)).2 ⟨t + 1, by simpa using ht, hk⟩
      rw [hh] at h3
      obtain ⟨s, hs, hk2⟩ := (getE_iff hb).1 h3
      cases s with
      | zero =>
        obtain rfl : p = r := by simpa using hs
        have := ha 0 (t + 1) p p rfl (by simpa using ht) (by omega)
        rw [kLt_irrefl] at this; cases this
      | succ s => exact ⟨s, by simpa using hs, hk2⟩
    · rintro ⟨t, ht, hk⟩
      have h3 := (getE_iff hb (key := key)).2 ⟨t + 1, by simpa using ht, hk⟩
      rw [← hh] at h3
      obtain ⟨s, hs, hk2⟩ := (getE_iff ha).1 h3
      cases s with
      | zero =>
        obtain rfl : p = r := by simpa using hs
        have := hb 0 (t + 1) p p rfl (by simpa using ht) (by omega)
        rw [kLt_irrefl] at this; cases this
      | succ s => exact ⟨s, by simpa using hs, hk2⟩
end Go.Proofs.YtcgfdhgceokcnaaGreatDoor

/- an lsm, plain: what is young, and the levels; what one can get of it. -/
namespace Go.Proofs.YtcgfdhgceokcnaaGreatDoor
open Go.RowKit
set_option linter.unusedVariables false

def mergeT (T : List (List Pr)) : List (List Pr) := if liveL T = [] then [] else [liveL T]
def flushT (T : List (List Pr)) : List (List Pr) := if 8 ≤ T.length then mergeT T else T
def doY (lim : Nat) (Y : List Pr) (p : Pr) : List Pr := if putK Y p = 0 ∧ lim ≤ (storeL Y p).length then [] else storeL Y p
def doT (lim : Nat) (Y : List Pr) (T : List (List Pr)) (p : Pr) : List (List Pr) := if putK Y p = 0 ∧ lim ≤ (storeL Y p).length then storeL Y p :: flushT T else T
def flY (Y : List Pr) : List Pr := []
def flT (Y : List Pr) (T : List (List Pr)) : List (List Pr) := if Y.length = 0 then T else Y :: flushT T
def flK (Y : List Pr) : Int := if Y.length = 0 then 6 else 0
def mgK (T : List (List Pr)) : Int := if T.length = 0 then 6 else 0
theorem flT_nil {Y : List Pr} {T : List (List Pr)} (h : Y.length = 0) : flT Y T = T := if_pos h
theorem flT_cons {Y : List Pr} {T : List (List Pr)} (h : Y.length ≠ 0) : flT Y T = Y :: flushT T := if_neg h
theorem flY_nil {Y : List Pr} (h : Y.length = 0) : flY Y = Y := (List.length_eq_zero_iff.1 h).symm

/-- each list is in order, and its pairs are right -/
def LsOk (T : List (List Pr)) : Prop := ∀ l ∈ T, Asc l ∧ ∀ p ∈ l, PrOk p
theorem LsOk.asc {T : List (List Pr)} (h : LsOk T) : ∀ l ∈ T, Asc l := fun l hl => (h l hl).1
theorem LsOk.tl {Y : List Pr} {T : List (List Pr)} (h : LsOk (Y :: T)) : LsOk T := fun l hl => h l (List.mem_cons_of_mem _ hl)
theorem LsOk.hd {Y : List Pr} {T : List (List Pr)} (h : LsOk (Y :: T)) : Asc Y ∧ ∀ p ∈ Y, PrOk p := h Y (List.mem_cons_self ..)
theorem LsOk.cons {Y : List Pr} {T : List (List Pr)} (h : Asc Y ∧ ∀ p ∈ Y, PrOk p) (k : LsOk T) : LsOk (Y :: T) := fun l hl => by
  rcases List.mem_cons.1 hl with rfl | hl
  · exact h
  · exact k l hl
theorem LsOk.nil : LsOk [] := fun l hl => by simp at hl
theorem nil_ok : Asc ([] : List Pr) ∧ ∀ p ∈ ([] : List Pr), PrOk p := ⟨Asc.nil, fun p hp => by simp at hp⟩
theorem live_ok {T : List (List Pr)} (h : LsOk T) : Asc (liveL T) ∧ ∀ p ∈ liveL T, PrOk p :=
  ⟨live_asc T, fun p hp => by
    obtain ⟨⟨l, hl, hp'⟩, _⟩ := live_mem hp
    exact (h l hl).2 p hp'⟩
theorem merge_ok {T : List (List Pr)} (h : LsOk T) : LsOk (mergeT T) := by
  unfold mergeT
  split
  · exact LsOk.nil
  · exact LsOk.cons (live_ok h) LsOk.nil
theorem flush_ok {T : List (List Pr)} (h : LsOk T) : LsOk (flushT T) := by
  unfold flushT
  split
  · exact merge_ok h
  · exact h
theorem store_ok {Y : List Pr} (h : Asc Y ∧ ∀ p ∈ Y, PrOk p) {p : Pr} (hp : p.gone = true → p.value.size = 0) : Asc (storeL Y p) ∧ ∀ q ∈ storeL Y p, PrOk q := by
  refine ⟨storeL_asc h.1 p, fun q hq => ?_⟩
  unfold storeL at hq
  by_cases hk : putK Y p = 0
  · rw [if_pos hk] at hq
    rcases putL_mem h.1 _ hq with rfl | hq
    · unfold putK at hk
      by_cases h1 : keyK q.key = 0
      · rw [if_neg (not_not_intro h1)] at hk
        by_cases h2 : 200 < q.value.size ∨ (hasB Y q.key = false ∧ 60 ≤ Y.length)
        · rw [if_pos h2] at hk; cases hk
        · exact ⟨h1, Nat.le_of_not_lt fun h => h2 (.inl h), hp⟩
      · rw [if_pos h1] at hk; exact absurd hk h1
    · exact h.2 q hq
  · rw [if_neg hk] at hq; exact h.2 q hq
theorem do_ok {lim : Nat} {Y : List Pr} {T : List (List Pr)} (h : LsOk (Y :: T)) {p : Pr} (hp : p.gone = true → p.value.size = 0) : LsOk (doY lim Y p :: doT lim Y T p) := by
  unfold doY doT
  split
  · exact LsOk.cons nil_ok (LsOk.cons (store_ok h.hd hp) (flush_ok h.tl))
  · exact LsOk.cons (store_ok h.hd hp) h.tl
theorem fl_ok {Y : List Pr} {T : List (List Pr)} (h : LsOk (Y :: T)) : LsOk (flY Y :: flT Y T) := by
  unfold flT flY
  split
  · exact LsOk.cons nil_ok h.tl
  · exact LsOk.cons nil_ok (LsOk.cons h.hd (flush_ok h.tl))

/- what one can get -/
def seeL (Y : List Pr) (T : List (List Pr)) (key : ByteArray) : Option ByteArray := vis (lookLs (Y :: T) key)
theorem vis_or (o a b : Option Pr) (h : vis a = vis b) : vis (o.or a) = vis (o.or b) := by
  cases o with
  | none => exact h
  | some p => rfl
theorem merge_see {T : List (List Pr)} (h : LsOk T) (key : ByteArray) : vis (lookLs (mergeT T) key) = vis (lookLs T key) := by
  have h1 := live_get h.asc key
  unfold mergeT
  split
  · rename_i he
    rw [he] at h1
    rw [← vis_filter (lookLs T key), ← h1]
    rfl
  · show vis ((getE (liveL T) key).or none) = _
    rw [Option.or_none, h1, vis_filter]
theorem flush_see {T : List (List Pr)} (h : LsOk T) (key : ByteArray) : vis (lookLs (flushT T) key) = vis (lookLs T key) := by
  unfold flushT
  split
  · exact merge_see h key
  · rfl
theorem see_mg {Y : List Pr} {T : List (List Pr)} (h : LsOk (Y :: T)) (key : ByteArray) : seeL Y (mergeT T) key = seeL Y T key := vis_or _ _ _ (merge_see h.tl key)
theorem getE_nil (key : ByteArray) : getE [] key = none := rfl
theorem see_fl {Y : List Pr} {T : List (List Pr)} (h : LsOk (Y :: T)) (key : ByteArray) : seeL (flY Y) (flT Y T) key = seeL Y T key := by
  unfold flT flY seeL
  split
  · rename_i h0
    rw [List.length_eq_zero_iff.1 h0]
  · show vis ((none : Option Pr).or ((getE Y key).or (lookLs (flushT T) key))) = vis ((getE Y key).or (lookLs T key))
    rw [Option.none_or]
    exact vis_or _ _ _ (flush_see h.tl key)
theorem see_store {Y : List Pr} {T : List (List Pr)} (h : Asc Y) {p : Pr} (hk : putK Y p = 0) (key : ByteArray) : seeL (storeL Y p) T key = if p.key = key then vis (some p) else seeL Y T key := by
  unfold seeL
  show vis ((getE (storeL Y p) key).or (lookLs T key)) = _
  rw [get_store h hk]
  by_cases he : p.key = key
  · rw [if_pos he, if_pos he]; rfl
  · rw [if_neg he, if_neg he]; rfl
theorem see_do {lim : Nat} {Y : List Pr} {T : List (List Pr)} (h : LsOk (Y :: T)) {p : Pr} (hp : p.gone = true → p.value.size = 0) (hk : putK Y p = 0) (key : ByteArray) : seeL (doY lim Y p) (doT lim Y T p) key = if p.key = key then vis (some p) else seeL Y T key := by
  rw [← see_store h.hd.1 hk]
  by_cases hc : lim ≤ (storeL Y p).length
  · have h1 := see_fl (LsOk.cons (store_ok h.hd hp) h.tl) key
    unfold doY doT
    rw [if_pos ⟨hk, hc⟩, if_pos ⟨hk, hc⟩]
    by_cases h0 : (storeL Y p).length = 0
    · have h2 := List.length_eq_zero_iff.1 h0
      rw [h2]
      show vis ((none : Option Pr).or ((none : Option Pr).or (lookLs (flushT T) key))) = vis ((none : Option Pr).or (lookLs T key))
      rw [Option.none_or, Option.none_or, Option.none_or]
      exact flush_see h.tl key
    · rw [flT_cons h0] at h1
      exact h1
  · unfold doY doT
    rw [if_neg (fun h => hc h.2), if_neg (fun h => hc h.2)]
theorem do_bad {lim : Nat} {Y : List Pr} {T : List (List Pr)} {p : Pr} (hk : putK Y p ≠ 0) : doY lim Y p = Y ∧ doT lim Y T p = T := by
  unfold doY doT
  rw [if_neg (fun h => hk h.1), if_neg (fun h => hk h.1)]
  exact ⟨store_bad hk, rfl⟩

/- how many there are -/
def totL (T : List (List Pr)) : Nat := (T.map List.length).sum
theorem totL_cons (Y : List Pr) (T : List (List Pr)) : totL (Y :: T) = Y.length + totL T := by simp [totL]
theorem totL_nil : totL [] = 0 := rfl
theorem addL_len {out : List Pr} (p : Pr) : (addL out p).length ≤ out.length + 1 := by
  unfold addL
  split
  · omega
  · rw [ins_len (lowN_le _ _)]; omega
theorem fold_len : ∀ (ps acc : List Pr), (ps.foldl addL acc).length ≤ acc.length + ps.length
  | [], acc => Nat.le_refl _
  | p :: ps, acc => by
    have h1 := fold_len ps (addL acc p)
    have h2 := addL_len (out := acc) p
    rw [List.foldl_cons, List.length_cons]
    omega
theorem live_len (T : List (List Pr)) : (liveL T).length ≤ totL T := by
  have h1 : (liveL T).length ≤ (mergeL T).length := List.length_filter_le _ _
  have h2 := fold_len T.flatten []
  have h3 : T.flatten.length = totL T := by rw [List.length_flatten]; rfl
  unfold mergeL at h1
  rw [h3] at h2
  simp only [List.length_nil] at h2
  omega
theorem merge_tot (T : List (List Pr)) : totL (mergeT T) ≤ totL T := by
  have := live_len T
  unfold mergeT
  split
  · exact Nat.zero_le _
  · rw [totL_cons, totL_nil]; omega
theorem flush_tot (T : List (List Pr)) : totL (flushT T) ≤ totL T := by
  unfold flushT
  split
  · exact merge_tot T
  · exact Nat.le_refl _
theorem fl_tot (Y : List Pr) (T : List (List Pr)) : totL (flY Y :: flT Y T) ≤ totL (Y :: T) := by
  have := flush_tot T
  unfold flT flY
  split
  · rw [totL_cons, totL_cons, List.length_nil]; omega
  · rw [totL_cons, totL_cons, totL_cons, List.length_nil]; omega
theorem store_len (Y : List Pr) (p : Pr) : (storeL Y p).length ≤ Y.length + 1 := by
  unfold storeL
  split
  · unfold putL
    split
    · rw [List.length_set]; omega
    · rw [ins_len (lowN_le _ _)]; omega
  · omega
theorem do_tot (lim : Nat) (Y : List Pr) (T : List (List Pr)) (p : Pr) : totL (doY lim Y p :: doT lim Y T p) ≤ totL (Y :: T) + 1 := by
  have h1 := flush_tot T
  have h2 := store_len Y p
  unfold doY doT
  split
  · rw [totL_cons, totL_cons, totL_cons, List.length_nil]; omega
  · rw [totL_cons, totL_cons]; omega
theorem merge_many (T : List (List Pr)) : (mergeT T).length ≤ 1 := by
  unfold mergeT
  split <;> simp
theorem flush_many {T : List (List Pr)} : (flushT T).length ≤ 7 := by
  have := merge_many T
  unfold flushT
  split <;> omega
theorem do_many {lim : Nat} {Y : List Pr} {T : List (List Pr)} {p : Pr} (h : T.length ≤ 8) : (doT lim Y T p).length ≤ 8 := by
  have := flush_many (T := T)
  unfold doT
  split
  · rw [List.length_cons]; omega
  · exact h
theorem fl_many {Y : List Pr} {T : List (List Pr)} (h : T.length ≤ 8) : (flT Y T).length ≤ 8 := by
  have := flush_many (T := T)
  unfold flT
  split
  · exact h
  · rw [List.length_cons]; omega
theorem do_young {lim : Nat} {Y : List Pr} {p : Pr} (h : Y.length < lim) : (doY lim Y p).length < lim := by
  unfold doY
  split
  · rw [List.length_nil]; omega
  · rename_i hn
    by_cases hk : putK Y p = 0
    · exact Nat.lt_of_not_le fun hc => hn ⟨hk, hc⟩
    · rw [store_bad hk]; exact h
/-- two lists of live pairs are one, if they show the same -/
theorem live_ext {a b : List Pr} (ha : Asc a) (hb : Asc b) (ga : ∀ p ∈ a, p.gone = false) (gb : ∀ p ∈ b, p.gone = false) (h : ∀ key, vis (getE a key) = vis (getE b key)) : a = b := by
  refine asc_ext ha hb fun key => ?_
  have hk := h key
  cases h1 : getE a key with
  | none =>
    cases h2 : getE b key with
    | none => rfl
    | some q =>
      obtain ⟨i, hi, _⟩ := (getE_iff hb).1 h2
      rw [h1, h2] at hk
      simp [vis, gb q (List.mem_of_getElem? hi)] at hk
  | some p =>
    obtain ⟨i, hi, hpk⟩ := (getE_iff ha).1 h1
    have hpg := ga p (List.mem_of_getElem? hi)
    cases h2 : getE b key with
    | none =>
      rw [h1, h2] at hk
      simp [vis, hpg] at hk
    | some q =>
      obtain ⟨j, hj, hqk⟩ := (getE_iff hb).1 h2
      have hqg := gb q (List.mem_of_getElem? hj)
      rw [h1, h2] at hk
      simp [vis, hpg, hqg] at hk
      obtain ⟨pk, pv, pg⟩ := p
      obtain ⟨qk, qv, qg⟩ := q
      simp only at hk hpk hqk hpg hqg
      rw [hk, hpk, hpg, ← hqg, ← hqk]
theorem live_see {Y : List Pr} {T : List (List Pr)} (h : LsOk (Y :: T)) (key : ByteArray) : vis (getE (liveL (Y :: T)) key) = seeL Y T key := by
  rw [live_get h.asc, vis_filter]; rfl
theorem live_gone {T : List (List Pr)} : ∀ p ∈ liveL T, p.gone = false := fun p hp => (live_mem hp).2
end Go.Proofs.YtcgfdhgceokcnaaGreatDoor

/- table: what is wrong with pairs, plain; and table.Check. -/
namespace Go.Proofs.YtcgfdhgceokcnaaGreatDoor
open Go.RowKit
set_option linter.unusedVariables false
attribute [local go_sem ↓] Go.wp_at_zero Go.wp_at_succ

def ordT (seen : List Pr) (p : Pr) : Bool := match seen.getLast? with | some q => !(Op.bytesLess q.key.toList p.key.toList) | none => false
def tabK (seen : List Pr) (p : Pr) : Int :=
  if keyK p.key ≠ 0 then keyK p.key else if 200 < p.value.size then 4 else if p.gone = true ∧ p.value.size ≠ 0 then 3 else if ordT seen p = true then 7 else 0
def tabGo : List Pr → List Pr → Int
  | seen, [] => 0
  | seen, p :: r => if tabK seen p ≠ 0 then tabK seen p else tabGo (seen ++ [p]) r
def tblK (es : List Pr) : Int := tabGo [] es
theorem tabGo_step {es : List Pr} {j : Nat} {p : Pr} (h : es[j]? = some p) : tabGo (es.take j) (es.drop j) = if tabK (es.take j) p ≠ 0 then tabK (es.take j) p else tabGo (es.take (j + 1)) (es.drop (j + 1)) := by
  obtain ⟨hj, rfl⟩ := List.getElem?_eq_some_iff.1 h
  rw [List.drop_eq_getElem_cons hj, tabGo, List.take_succ_eq_append_getElem hj]
theorem tabK_zero {seen : List Pr} {p : Pr} : tabK seen p = 0 ↔ PrOk p ∧ ordT seen p = false := by
  unfold tabK PrOk
  constructor
  · intro h
    by_cases h1 : keyK p.key = 0
    · rw [if_neg (not_not_intro h1)] at h
      by_cases h2 : 200 < p.value.size
      · rw [if_pos h2] at h; cases h
      · rw [if_neg h2] at h
        by_cases h3 : p.gone = true ∧ p.value.size ≠ 0
        · rw [if_pos h3] at h; cases h
        · rw [if_neg h3] at h
          cases h4 : ordT seen p with
          | true => rw [h4, if_pos rfl] at h; cases h
          | false => exact ⟨⟨h1, by omega, fun hg => Decidable.byContradiction fun hv => h3 ⟨hg, hv⟩⟩, rfl⟩
    · rw [if_pos h1] at h; exact absurd h h1
  · rintro ⟨⟨h1, h2, h3⟩, h4⟩
    rw [if_neg (not_not_intro h1), if_neg (by omega), if_neg (fun h => h.2 (h3 h.1)), h4, if_neg (by decide)]
theorem tabGo_zero {es : List Pr} : ∀ j, j ≤ es.length → (tabGo [] es = 0 ↔ (∀ i p, i < j → es[i]? = some p → tabK (es.take i) p = 0) ∧ tabGo (es.take j) (es.drop j) = 0)
  | 0, _ => by
    constructor
    · intro h; exact ⟨fun i p hi => absurd hi (Nat.not_lt_zero _), h⟩
    · intro h; exact h.2
  | j + 1, hj => by
    rw [tabGo_zero j (by omega), tabGo_step (List.getElem?_eq_getElem (by omega : j < es.length))]
    constructor
    · rintro ⟨h1, h2⟩
      by_cases h3 : tabK (es.take j) es[j] = 0
      · rw [if_neg (not_not_intro h3)] at h2
        refine ⟨fun i p hi hp => ?_, h2⟩
        by_cases hij : i = j
        · subst hij
          rw [List.getElem?_eq_getElem (by omega)] at hp
          injection hp with hp
          rw [← hp]; exact h3
        · exact h1 i p (by omega) hp
      · rw [if_pos h3] at h2; exact absurd h2 h3
    · rintro ⟨h1, h2⟩
      have h3 := h1 j es[j] (by omega) (List.getElem?_eq_getElem (by omega))
      exact ⟨fun i p hi hp => h1 i p (by omega) hp, by rw [if_neg (not_not_intro h3)]; exact h2⟩
theorem ordT_prev {es : List Pr} {j : Nat} {q p : Pr} (h : es[j]? = some q) : ordT (es.take (j + 1)) p = !(kLt q.key p.key) := by
  obtain ⟨hj, rfl⟩ := List.getElem?_eq_some_iff.1 h
  unfold ordT
  rw [List.take_succ_eq_append_getElem hj, List.getLast?_append]
  show (!(Op.bytesLess _ _)) = _
  rw [kLt_op]
  rfl
theorem ordT_nil (p : Pr) : ordT [] p = false := rfl
theorem tblK_zero {es : List Pr} : tblK es = 0 ↔ Asc es ∧ ∀ p ∈ es, PrOk p := by
  unfold tblK
  rw [tabGo_zero es.length (Nat.le_refl _)]
  constructor
  · rintro ⟨h, _⟩
    have hadj : ∀ (j : Nat) (q p : Pr), es[j]? = some q → es[j + 1]? = some p → kLt q.key p.key = true := fun j q p hq hp => by
      have h1 := (tabK_zero.1 (h (j + 1) p (List.getElem?_eq_some_iff.1 hp).1 hp)).2
      rw [ordT_prev hq] at h1
      simpa using h1
    refine ⟨?_, fun p hp => ?_⟩
    · intro i j p q hp hq hij
      obtain ⟨d, rfl⟩ : ∃ d, j = i + d + 1 := ⟨j - i - 1, by omega⟩
      clear hij
      induction d generalizing q with
      | zero => exact hadj i p q hp hq
      | succ d ih =>
        have hl := (List.getElem?_eq_some_iff.1 hq).1
        have hm := List.getElem?_eq_getElem (l := es) (i := i + d + 1) (by omega)
        exact kLt_trans (ih _ hm) (hadj (i + d + 1) _ q hm hq)
    · obtain ⟨i, hi⟩ := List.getElem?_of_mem hp
      exact (tabK_zero.1 (h i p (List.getElem?_eq_some_iff.1 hi).1 hi)).1
  · rintro ⟨ha, ho⟩
    refine ⟨fun i p hi hp => tabK_zero.2 ⟨ho p (List.mem_of_getElem? hp), ?_⟩, by rw [List.drop_of_length_le (Nat.le_refl _)]; rfl⟩
    cases i with
    | zero => rfl
    | succ i =>
      have hm := List.getElem?_eq_getElem (l := es) (i := i) (by omega)
      rw [ordT_prev hm, ha i (i + 1) _ p hm hp (by omega)]
      rfl

set_option maxRecDepth 100000 in
set_option maxHeartbeats 2000000 in
theorem TabCheck_any (A : Option Addr) (n c : Nat) (es : List Pr) (w : World) (hr : Rd w 3 A n c (es.flatMap Pr.cells)) (hm : c ≤ maxLen) :
    Calls Tryz.prog 156 #[.slice A n c] w fun e w' => e = .returned (errR (tblK es)) ∧ Ext w w' := by
  obtain ⟨hE, hN, hG⟩ := errR_rules
  have hms : c ≤ 9223372036854775807 := by unfold maxLen at hm; omega
  have hl := hr.2.1
  have HX := Lib.hid hr.lenP
  obtain ⟨k, HK⟩ : ∃ x, Hid (tblK es = x) := ⟨_, rfl⟩
  rw [HK.out]
  have HK0 : Hid (tabGo (es.take 0) (es.drop 0) = k) := HK
  go_enter Tryz.func156, Tryz.ntmps156
  go_wp2_with fail
  go_loopw [3, 4, 5, 8, 19, 25, 34] (fun _ _ _ x _ _ _ wr => ∃ j : Nat, x = .int .i64 j ∧ j ≤ n ∧ Ext w wr ∧ Hid (tabGo (es.take j) (es.drop j) = k)) (fun _ _ _ x _ _ _ _ => n - (intOf x).toNat)
  case atStart => exact ⟨0, rfl, Nat.zero_le _, Ext.refl _, HK0⟩
  case round =>
    obtain ⟨j, rfl, hj, hbw, hgo⟩ := hrel
    by_cases hc : j < n
    · have hgj := List.getElem?_eq_getElem (l := es) (i := j) (by rw [HX.out]; exact hc)
      obtain ⟨ad, rfl, hb, c0, c1, c2⟩ := (hr.ext hbw).getP hgj
      have hst := tabGo_step hgj
      rw [hgo.out] at hst
      have HST := Lib.hid hst
      generalize es[j]'(by rw [HX.out]; exact hc) = p at *
      obtain ⟨pk, pv, pg⟩ := p
      clear hgj hst
      have PB : Bk (wr.alloc (.cells #[.string pk, .string pv, .bool pg] 31)) wr.heap.size 31 #[.string pk, .string pv, .bool pg] := Bk.at_ _ _ _ _ rfl
      have e3 : Ext w (wr.alloc (.cells #[.string pk, .string pv, .bool pg] 31)) := hbw.alloc _
      have hR := hr.ext e3
      simp only at c0 c1 c2
      go_wp2_with fail
      generalize wr.alloc (.cells #[.string pk, .string pv, .bool pg] 31) = W3 at *
      obtain ⟨g, HGN⟩ : ∃ g, wr.heap.size = g := ⟨_, rfl⟩
      rw [HGN] at PB
      rw [HGN]
      clear HGN hbw c0 c1 c2 hb
      refine (Key_any pk _).mono ?_
      rintro _ _ ⟨rfl, rfl⟩
      by_cases hk0 : keyK pk = 0
      · have HKK := Lib.hid hk0
        rw [hk0, errR_0]
        have x0 : W3.cell? ⟨g, 0, none⟩ = some (.string pk) := PB.cell 0
        have x1 : W3.cell? ⟨g, 1, none⟩ = some (.string pv) := PB.cell 1
        have x2 : W3.cell? ⟨g, 2, none⟩ = some (.bool pg) := PB.cell 2
        clear hk0
        by_cases h2 : 200 < pv.size
        · have hk : k = 4 := by
            have h3 := HST.out
            have h4 : tabK (es.take j) ⟨pk, pv, pg⟩ = 4 := by unfold tabK; rw [if_neg (not_not_intro HKK.out), if_pos h2]
            rw [h4, if_pos (by decide)] at h3
            exact h3
          subst hk
          go_wp2_with fail
          go_ret
          exact ⟨rfl, e3⟩
        · by_cases h3 : pg = true ∧ pv.size ≠ 0
          · obtain ⟨rfl, h4⟩ := h3
            obtain ⟨q1, q2⟩ := str_someP (s := pv) (by omega)
            have hk : k = 3 := by
              have h3 := HST.out
              have h5 : tabK (es.take j) ⟨pk, pv, true⟩ = 3 := by unfold tabK; rw [if_neg (not_not_intro HKK.out), if_neg h2, if_pos ⟨rfl, h4⟩]
              rw [h5, if_pos (by decide)] at h3
              exact h3
            subst hk
            go_wp2_with fail
            go_ret
            exact ⟨rfl, e3⟩
          · obtain ⟨ob, HOB⟩ : ∃ x, Hid (ordT (es.take j) ⟨pk, pv, pg⟩ = x) := ⟨_, rfl⟩
            have hpk0 : tabK (es.take j) ⟨pk, pv, pg⟩ = if ob = true then 7 else 0 := by
              unfold tabK
              rw [if_neg (not_not_intro HKK.out), if_neg h2, if_neg h3, HOB.out]
            have HPK := Lib.hid hpk0
            clear hpk0
            go_upto_region 9 with (fail)
            go_cut [25] from 26 to 32 (fun v wc => v = .bool false ∧ W3 = wc)
            case first =>
              as_aux_lemma =>
              cases pg with
              | true =>
                have hz : pv.size = 0 := Decidable.byContradiction fun h => h3 ⟨rfl, h⟩
                obtain rfl := str_noneP hz
                clear h3 hz
                go_wp2_with fail
                go_meet
                exact ⟨rfl, rfl⟩
              | false =>
                clear h3
                go_wp2_with fail
                go_meet
                exact ⟨rfl, rfl⟩
            case rest =>
            as_aux_lemma =>
            obtain ⟨rfl, rfl⟩ := hcut
            clear h3
            go_upto_region 11 with (fail)
            go_cut [34] from 35 to 47 (fun v wc => v = .bool ob ∧ W3.drew = wc)
            case first =>
              as_aux_lemma =>
              by_cases hj0 : j = 0
              · subst hj0
                have hob : ob = false := by rw [← HOB.out]; rfl
                subst hob
                clear HOB
                go_region
                go_wp2_with fail
                go_meet
                exact ⟨rfl, rfl⟩
              · have hgm := List.getElem?_eq_getElem (l := es) (i := j - 1) (by rw [HX.out]; omega)
                obtain ⟨ad', e, hb', y0, -, -⟩ := hR.getP hgm
                obtain rfl : ad = ad' := by injection e
                have hob : ob = !(Op.bytesLess (es[j - 1]'(by rw [HX.out]; omega)).key.toList pk.toList) := by
                  have h5 := ordT_prev (p := ⟨pk, pv, pg⟩) hgm
                  rw [Nat.sub_add_cancel (by omega), HOB.out] at h5
                  rw [h5, kLt_op]
                generalize (es[j - 1]'(by rw [HX.out]; omega)).key = qk at *
                obtain ⟨lb, HLB⟩ : ∃ x, Op.bytesLess qk.toList pk.toList = x := ⟨_, rfl⟩
                rw [HLB] at hob
                have k1 : IntKind.i64.wrap ((j : Int) - 1) = (j : Int) - 1 := IntWalk.i64_in _ (by omega)
                have k2 : ((j : Int) - 1).toNat = j - 1 := by omega
                have k3 : 0 ≤ (j : Int) - 1 := by omega
                have k5 : (j : Int) - 1 < (n : Int) := by omega
                have k6 : 0 < (j : Int) := by omega
                have k7 : j - 1 < n := by omega
                have k8 : 0 < j := by omega
                have k9 : decide ((0 : Int) < (j : Int)) = true := decide_eq_true k6
                clear HOB hgm e HST HPK hgo hj0 x1 x2
                cases lb
                · subst hob
                  go_region
                  go_wp2_with fail
                  go_meet
                  exact ⟨rfl, rfl⟩
                · subst hob
                  go_region
                  go_wp2_with fail
                  go_meet
                  exact ⟨rfl, rfl⟩
            case rest =>
            as_aux_lemma =>
            obtain ⟨rfl, rfl⟩ := hcut
            cases ob with
            | true =>
              have hk : k = 7 := by
                have h3 := HST.out
                rw [HPK.out, if_pos rfl, if_pos (by decide)] at h3
                exact h3
              subst hk
              go_wp2_with fail
              go_ret
              exact ⟨rfl, e3.drew⟩
            | false =>
              have hst2 : tabGo (es.take (j + 1)) (es.drop (j + 1)) = k := by
                have h3 := HST.out
                rw [HPK.out, if_neg (by decide)] at h3
                exact h3.symm
              have HST2 := Lib.hid hst2
              clear hst2 HST hgo
              go_wp2_with fail
              go_roundw
              case rel => exact ⟨j + 1, by go_num, by omega, e3.drew, HST2⟩
              case measure => simp [intOf]; omega
      · have hk : k = keyK pk := by
          have h3 := HST.out
          have h4 : tabK (es.take j) ⟨pk, pv, pg⟩ = keyK pk := by unfold tabK; rw [if_pos hk0]
          rw [h4, if_pos hk0] at h3
          exact h3
        have HKK := Lib.hid (isOk_no hk0)
        rw [← hk]
        rw [← hk] at HKK
        have hko := HKK.out
        clear hk0 hk
        go_wp2_with fail
        go_ret
        exact ⟨rfl, e3⟩
    · have hk : k = 0 := by
        rw [← hgo.out, List.drop_of_length_le (by rw [HX.out]; omega)]; rfl
      subst hk
      go_wp2_with fail
      go_ret
      exact ⟨rfl, hbw⟩
end Go.Proofs.YtcgfdhgceokcnaaGreatDoor

/- table: bytes that are appended; four. -/
namespace Go.Proofs.YtcgfdhgceokcnaaGreatDoor
open Go.RowKit Go.WideShapes
set_option linter.unusedVariables false
attribute [local go_sem ↓] Go.wp_at_zero Go.wp_at_succ

theorem info_u8t : (Tryz.prog.info? 5).map (fun i => (i.zero, i.size, i.bytes)) = some (some (.int .u8 0), 1, 1) := by kernel_rfl
def bcells (l : List UInt8) : List Value := l.map fun b => Value.int .u8 b.toNat
theorem bcells_append (a b : List UInt8) : bcells (a ++ b) = bcells a ++ bcells b := by simp [bcells]
theorem bcells_one (l : List UInt8) : ∀ u ∈ bcells l, u.oneCell' = true := by
  intro u hu
  unfold bcells at hu
  rw [List.mem_map] at hu
  obtain ⟨b, _, rfl⟩ := hu
  rfl
theorem bcells_len (l : List UInt8) : (bcells l).length = l.length := by simp [bcells]
/-- bytes that are owned -/
def OwnB (w : World) (base : Nat) (v : Value) (l : List UInt8) : Prop := w.ownsRow base 5 1 v l.length (bcells l)
theorem four_cells (n : Int) (h0 : 0 ≤ n) (h1 : n < 2147483648) : bcells (fourB n) = [.int .u8 (n / 16777216), .int .u8 (n / 65536 % 256), .int .u8 (n / 256 % 256), .int .u8 (n % 256)] := by
  unfold bcells fourB
  simp only [List.map_cons, List.map_nil]
  rw [toNat_byteOf _ (by omega) (by omega), toNat_byteOf _ (by omega) (by omega), toNat_byteOf _ (by omega) (by omega), toNat_byteOf _ (by omega) (by omega), show n / 16777216 % 256 = n / 16777216 by omega]

set_option maxRecDepth 100000 in
set_option maxHeartbeats 1000000 in
theorem TFour_any (n : Int) (v : Value) (base : Nat) (l : List UInt8) (w : World) (h0 : 0 ≤ n) (h1 : n < 2147483648) (hb : base ≤ w.heap.size) (hm : l.length ≤ 100000000000) (hown : OwnB w base v l) :
    Calls Tryz.prog 157 #[v, .int .i64 n] w fun e w' => (∃ v', e = .returned v' ∧ OwnB w' base v' (l ++ fourB n)) ∧ w.grownBy w' v.ownBlock := by
  obtain ⟨i0, hi0, hz0, hz1, hz2⟩ := info_parts info_u8t
  have hO := Lib.hid hown
  have HF := Lib.hid (four_cells n h0 h1)
  have HL : (l ++ fourB n).length = l.length + 4 := by rw [List.length_append]; rfl
  have hz : w.heap.size < (w.alloc (.cells #[.int .u8 (n / 16777216), .int .u8 (n / 65536 % 256), .int .u8 (n / 256 % 256), .int .u8 (n % 256)] 5)).heap.size := by simp
  have hal := World.grownBy_alloc w (.cells #[.int .u8 (n / 16777216), .int .u8 (n / 65536 % 256), .int .u8 (n / 256 % 256), .int .u8 (n % 256)] 5) v.ownBlock
  have hHL := Lib.hid HL
  clear hown HL
  go_enter Tryz.func157, Tryz.ntmps157
  go_wp2_with (at_builtin; go_loud (refine wpList_append_own _ rfl _ _ 61 rfl base 5 i0 _ 1 1 Tryz.underlying61 hi0 hz0 hz1 hz2 rfl (by omega) v l.length (bcells l) rfl (World.ownsRow.alloc hO.out _) ⟨w.heap.size, 0, none⟩ 4 4 [.int .u8 (n / 16777216), .int .u8 (n / 65536 % 256), .int .u8 (n / 256 % 256), .int .u8 (n % 256)] (by rfl) rfl (news_new w _ _ _ rfl) (by intro u hu; simp at hu; rcases hu with rfl | rfl | rfl | rfl <;> rfl) (by unfold maxLen; omega) (by omega) (by omega) ?_); intro v1 w1 own1 hg1 hH1)
  go_ret
  refine ⟨⟨v1, rfl, ?_⟩, gb_trans hal hg1⟩
  unfold OwnB
  rw [hHL.out, bcells_append, HF.out]
  exact own1
end Go.Proofs.YtcgfdhgceokcnaaGreatDoor
