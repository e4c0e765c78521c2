/- an lsm, plain: what is young, and the levels; what one can get of it. -/
import Derived.Test.YtnafegofmbhahaaDoorLsmP
namespace Go.Proofs.YtnafegofmbhahaaDoor
open Go.RowKit
set_option linter.unusedVariables false

def mergeT (T : List (List Pr)) : List (List Pr) := if liveL T = [] then [] else [liveL T]
def flushT (T : List (List Pr)) : List (List Pr) := if 8 ≤ T.length then mergeT T else T
def doY (lim : Nat) (Y : List Pr) (p : Pr) : List Pr := if putK Y p = 0 ∧ lim ≤ (storeL Y p).length then [] else storeL Y p
def doT (lim : Nat) (Y : List Pr) (T : List (List Pr)) (p : Pr) : List (List Pr) := if putK Y p = 0 ∧ lim ≤ (storeL Y p).length then storeL Y p :: flushT T else T
def flY (Y : List Pr) : List Pr := []
def flT (Y : List Pr) (T : List (List Pr)) : List (List Pr) := if Y.length = 0 then T else Y :: flushT T
def flK (Y : List Pr) : Int := if Y.length = 0 then 6 else 0
def mgK (T : List (List Pr)) : Int := if T.length = 0 then 6 else 0
theorem flT_nil {Y : List Pr} {T : List (List Pr)} (h : Y.length = 0) : flT Y T = T := if_pos h
theorem flT_cons {Y : List Pr} {T : List (List Pr)} (h : Y.length ≠ 0) : flT Y T = Y :: flushT T := if_neg h
theorem flY_nil {Y : List Pr} (h : Y.length = 0) : flY Y = Y := (List.length_eq_zero_iff.1 h).symm

/-- each list is in order, and its pairs are right -/
def LsOk (T : List (List Pr)) : Prop := ∀ l ∈ T, Asc l ∧ ∀ p ∈ l, PrOk p
theorem LsOk.asc {T : List (List Pr)} (h : LsOk T) : ∀ l ∈ T, Asc l := fun l hl => (h l hl).1
theorem LsOk.tl {Y : List Pr} {T : List (List Pr)} (h : LsOk (Y :: T)) : LsOk T := fun l hl => h l (List.mem_cons_of_mem _ hl)
theorem LsOk.hd {Y : List Pr} {T : List (List Pr)} (h : LsOk (Y :: T)) : Asc Y ∧ ∀ p ∈ Y, PrOk p := h Y (List.mem_cons_self ..)
theorem LsOk.cons {Y : List Pr} {T : List (List Pr)} (h : Asc Y ∧ ∀ p ∈ Y, PrOk p) (k : LsOk T) : LsOk (Y :: T) := fun l hl => by
  rcases List.mem_cons.1 hl with rfl | hl
  · exact h
  · exact k l hl
theorem LsOk.nil : LsOk [] := fun l hl => by simp at hl
theorem nil_ok : Asc ([] : List Pr) ∧ ∀ p ∈ ([] : List Pr), PrOk p := ⟨Asc.nil, fun p hp => by simp at hp⟩
theorem live_ok {T : List (List Pr)} (h : LsOk T) : Asc (liveL T) ∧ ∀ p ∈ liveL T, PrOk p :=
  ⟨live_asc T, fun p hp => by
    obtain ⟨⟨l, hl, hp'⟩, _⟩ := live_mem hp
    exact (h l hl).2 p hp'⟩
theorem merge_ok {T : List (List Pr)} (h : LsOk T) : LsOk (mergeT T) := by
  unfold mergeT
  split
  · exact LsOk.nil
  · exact LsOk.cons (live_ok h) LsOk.nil
theorem flush_ok {T : List (List Pr)} (h : LsOk T) : LsOk (flushT T) := by
  unfold flushT
  split
  · exact merge_ok h
  · exact h
theorem store_ok {Y : List Pr} (h : Asc Y ∧ ∀ p ∈ Y, PrOk p) {p : Pr} (hp : p.gone = true → p.value.size = 0) : Asc (storeL Y p) ∧ ∀ q ∈ storeL Y p, PrOk q := by
  refine ⟨storeL_asc h.1 p, fun q hq => ?_⟩
  unfold storeL at hq
  by_cases hk : putK Y p = 0
  · rw [if_pos hk] at hq
    rcases putL_mem h.1 _ hq with rfl | hq
    · unfold putK at hk
      by_cases h1 : keyK q.key = 0
      · rw [if_neg (not_not_intro h1)] at hk
        by_cases h2 : 200 < q.value.size ∨ (hasB Y q.key = false ∧ 60 ≤ Y.length)
        · rw [if_pos h2] at hk; cases hk
        · exact ⟨h1, Nat.le_of_not_lt fun h => h2 (.inl h), hp⟩
      · rw [if_pos h1] at hk; exact absurd hk h1
    · exact h.2 q hq
  · rw [if_neg hk] at hq; exact h.2 q hq
theorem do_ok {lim : Nat} {Y : List Pr} {T : List (List Pr)} (h : LsOk (Y :: T)) {p : Pr} (hp : p.gone = true → p.value.size = 0) : LsOk (doY lim Y p :: doT lim Y T p) := by
  unfold doY doT
  split
  · exact LsOk.cons nil_ok (LsOk.cons (store_ok h.hd hp) (flush_ok h.tl))
  · exact LsOk.cons (store_ok h.hd hp) h.tl
theorem fl_ok {Y : List Pr} {T : List (List Pr)} (h : LsOk (Y :: T)) : LsOk (flY Y :: flT Y T) := by
  unfold flT flY
  split
  · exact LsOk.cons nil_ok h.tl
  · exact LsOk.cons nil_ok (LsOk.cons h.hd (flush_ok h.tl))

/- what one can get -/
def seeL (Y : List Pr) (T : List (List Pr)) (key : ByteArray) : Option ByteArray := vis (lookLs (Y :: T) key)
theorem vis_or (o a b : Option Pr) (h : vis a = vis b) : vis (o.or a) = vis (o.or b) := by
  cases o with
  | none => exact h
  | some p => rfl
theorem merge_see {T : List (List Pr)} (h : LsOk T) (key : ByteArray) : vis (lookLs (mergeT T) key) = vis (lookLs T key) := by
  have h1 := live_get h.asc key
  unfold mergeT
  split
  · rename_i he
    rw [he] at h1
    rw [← vis_filter (lookLs T key), ← h1]
    rfl
  · show vis ((getE (liveL T) key).or none) = _
    rw [Option.or_none, h1, vis_filter]
theorem flush_see {T : List (List Pr)} (h : LsOk T) (key : ByteArray) : vis (lookLs (flushT T) key) = vis (lookLs T key) := by
  unfold flushT
  split
  · exact merge_see h key
  · rfl
theorem see_mg {Y : List Pr} {T : List (List Pr)} (h : LsOk (Y :: T)) (key : ByteArray) : seeL Y (mergeT T) key = seeL Y T key := vis_or _ _ _ (merge_see h.tl key)
theorem getE_nil (key : ByteArray) : getE [] key = none := rfl
theorem see_fl {Y : List Pr} {T : List (List Pr)} (h : LsOk (Y :: T)) (key : ByteArray) : seeL (flY Y) (flT Y T) key = seeL Y T key := by
  unfold flT flY seeL
  split
  · rename_i h0
    rw [List.length_eq_zero_iff.1 h0]
  · show vis ((none : Option Pr).or ((getE Y key).or (lookLs (flushT T) key))) = vis ((getE Y key).or (lookLs T key))
    rw [Option.none_or]
    exact vis_or _ _ _ (flush_see h.tl key)
theorem see_store {Y : List Pr} {T : List (List Pr)} (h : Asc Y) {p : Pr} (hk : putK Y p = 0) (key : ByteArray) : seeL (storeL Y p) T key = if p.key = key then vis (some p) else seeL Y T key := by
  unfold seeL
  show vis ((getE (storeL Y p) key).or (lookLs T key)) = _
  rw [get_store h hk]
  by_cases he : p.key = key
  · rw [if_pos he, if_pos he]; rfl
  · rw [if_neg he, if_neg he]; rfl
theorem see_do {lim : Nat} {Y : List Pr} {T : List (List Pr)} (h : LsOk (Y :: T)) {p : Pr} (hp : p.gone = true → p.value.size = 0) (hk : putK Y p = 0) (key : ByteArray) : seeL (doY lim Y p) (doT lim Y T p) key = if p.key = key then vis (some p) else seeL Y T key := by
  rw [← see_store h.hd.1 hk]
  by_cases hc : lim ≤ (storeL Y p).length
  · have h1 := see_fl (LsOk.cons (store_ok h.hd hp) h.tl) key
    unfold doY doT
    rw [if_pos ⟨hk, hc⟩, if_pos ⟨hk, hc⟩]
    by_cases h0 : (storeL Y p).length = 0
    · have h2 := List.length_eq_zero_iff.1 h0
      rw [h2]
      show vis ((none : Option Pr).or ((none : Option Pr).or (lookLs (flushT T) key))) = vis ((none : Option Pr).or (lookLs T key))
      rw [Option.none_or, Option.none_or, Option.none_or]
      exact flush_see h.tl key
    · rw [flT_cons h0] at h1
      exact h1
  · unfold doY doT
    rw [if_neg (fun h => hc h.2), if_neg (fun h => hc h.2)]
theorem do_bad {lim : Nat} {Y : List Pr} {T : List (List Pr)} {p : Pr} (hk : putK Y p ≠ 0) : doY lim Y p = Y ∧ doT lim Y T p = T := by
  unfold doY doT
  rw [if_neg (fun h => hk h.1), if_neg (fun h => hk h.1)]
  exact ⟨store_bad hk, rfl⟩

/- how many there are -/
def totL (T : List (List Pr)) : Nat := (T.map List.length).sum
theorem totL_cons (Y : List Pr) (T : List (List Pr)) : totL (Y :: T) = Y.length + totL T := by simp [totL]
theorem totL_nil : totL [] = 0 := rfl
theorem addL_len {out : List Pr} (p : Pr) : (addL out p).length ≤ out.length + 1 := by
  unfold addL
  split
  · omega
  · rw [ins_len (lowN_le _ _)]; omega
theorem fold_len : ∀ (ps acc : List Pr), (ps.foldl addL acc).length ≤ acc.length + ps.length
  | [], acc => Nat.le_refl _
  | p :: ps, acc => by
    have h1 := fold_len ps (addL acc p)
    have h2 := addL_len (out := acc) p
    rw [List.foldl_cons, List.length_cons]
    omega
theorem live_len (T : List (List Pr)) : (liveL T).length ≤ totL T := by
  have h1 : (liveL T).length ≤ (mergeL T).length := List.length_filter_le _ _
  have h2 := fold_len T.flatten []
  have h3 : T.flatten.length = totL T := by rw [List.length_flatten]; rfl
  unfold mergeL at h1
  rw [h3] at h2
  simp only [List.length_nil] at h2
  omega
theorem merge_tot (T : List (List Pr)) : totL (mergeT T) ≤ totL T := by
  have := live_len T
  unfold mergeT
  split
  · exact Nat.zero_le _
  · rw [totL_cons, totL_nil]; omega
theorem flush_tot (T : List (List Pr)) : totL (flushT T) ≤ totL T := by
  unfold flushT
  split
  · exact merge_tot T
  · exact Nat.le_refl _
theorem fl_tot (Y : List Pr) (T : List (List Pr)) : totL (flY Y :: flT Y T) ≤ totL (Y :: T) := by
  have := flush_tot T
  unfold flT flY
  split
  · rw [totL_cons, totL_cons, List.length_nil]; omega
  · rw [totL_cons, totL_cons, totL_cons, List.length_nil]; omega
theorem store_len (Y : List Pr) (p : Pr) : (storeL Y p).length ≤ Y.length + 1 := by
  unfold storeL
  split
  · unfold putL
    split
    · rw [List.length_set]; omega
    · rw [ins_len (lowN_le _ _)]; omega
  · omega
theorem do_tot (lim : Nat) (Y : List Pr) (T : List (List Pr)) (p : Pr) : totL (doY lim Y p :: doT lim Y T p) ≤ totL (Y :: T) + 1 := by
  have h1 := flush_tot T
  have h2 := store_len Y p
  unfold doY doT
  split
  · rw [totL_cons, totL_cons, totL_cons, List.length_nil]; omega
  · rw [totL_cons, totL_cons]; omega
theorem merge_many (T : List (List Pr)) : (mergeT T).length ≤ 1 := by
  unfold mergeT
  split <;> simp
theorem flush_many {T : List (List Pr)} : (flushT T).length ≤ 7 := by
  have := merge_many T
  unfold flushT
  split <;> omega
theorem do_many {lim : Nat} {Y : List Pr} {T : List (List Pr)} {p : Pr} (h : T.length ≤ 8) : (doT lim Y T p).length ≤ 8 := by
  have := flush_many (T := T)
  unfold doT
  split
  · rw [List.length_cons]; omega
  · exact h
theorem fl_many {Y : List Pr} {T : List (List Pr)} (h : T.length ≤ 8) : (flT Y T).length ≤ 8 := by
  have := flush_many (T := T)
  unfold flT
  split
  · exact h
  · rw [List.length_cons]; omega
theorem do_young {lim : Nat} {Y : List Pr} {p : Pr} (h : Y.length < lim) : (doY lim Y p).length < lim := by
  unfold doY
  split
  · rw [List.length_nil]; omega
  · rename_i hn
    by_cases hk : putK Y p = 0
    · exact Nat.lt_of_not_le fun hc => hn ⟨hk, hc⟩
    · rw [store_bad hk]; exact h
/-- two lists of live pairs are one, if they show the same -/
theorem live_ext {a b : List Pr} (ha : Asc a) (hb : Asc b) (ga : ∀ p ∈ a, p.gone = false) (gb : ∀ p ∈ b, p.gone = false) (h : ∀ key, vis (getE a key) = vis (getE b key)) : a = b := by
  refine asc_ext ha hb fun key => ?_
  have hk := h key
  cases h1 : getE a key with
  | none =>
    cases h2 : getE b key with
    | none => rfl
    | some q =>
      obtain ⟨i, hi, _⟩ := (getE_iff hb).1 h2
      rw [h1, h2] at hk
      simp [vis, gb q (List.mem_of_getElem? hi)] at hk
  | some p =>
    obtain ⟨i, hi, hpk⟩ := (getE_iff ha).1 h1
    have hpg := ga p (List.mem_of_getElem? hi)
    cases h2 : getE b key with
    | none =>
      rw [h1, h2] at hk
      simp [vis, hpg] at hk
    | some q =>
      obtain ⟨j, hj, hqk⟩ := (getE_iff hb).1 h2
      have hqg := gb q (List.mem_of_getElem? hj)
      rw [h1, h2] at hk
      simp [vis, hpg, hqg] at hk
      obtain ⟨pk, pv, pg⟩ := p
      obtain ⟨qk, qv, qg⟩ := q
      simp only at hk hpk hqk hpg hqg
      rw [hk, hpk, hpg, ← hqg, ← hqk]
theorem live_see {Y : List Pr} {T : List (List Pr)} (h : LsOk (Y :: T)) (key : ByteArray) : vis (getE (liveL (Y :: T)) key) = seeL Y T key := by
  rw [live_get h.asc, vis_filter]; rfl
theorem live_gone {T : List (List Pr)} : ∀ p ∈ liveL T, p.gone = false := fun p hp => (live_mem hp).2
end Go.Proofs.YtnafegofmbhahaaDoor
