/- Pairs: what they are, and store.Key. -/
import Derived.Test.YtcgfdhgceokcnaaDoorJWalWhole1
import Derived.Test.YtcgfdhgceokcnaaDoorJWalWhole4
import Derived.Test.YtcgfdhgceokcnaaDoorJWalWhole5
import Derived.Deep.LoopGhost
import Derived.Deep.RegionHeld3
import Derived.Deep.DrawnRows
import Derived.Test.YtcgfdhgceokcnaaDoorJWalWhole0
import Derived.Lib.SlicesS
import Derived.BigRegion
import Derived.Handy
namespace Go.Proofs.YtcgfdhgceokcnaaDoor
open Go.RowKit
set_option linter.unusedVariables false
attribute [local go_sem ↓] Go.wp_at_zero Go.wp_at_succ

theorem flat_nthP {α : Type} {f : α → List Value} {k : Nat} (hf : ∀ x, (f x).length = k) : ∀ (l : List α) (j : Nat) (x : α) (i : Nat), l[j]? = some x → i < k → (l.flatMap f)[j * k + i]? = (f x)[i]?
  | [], j, x, i, h, _ => by simp at h
  | y :: l, 0, x, i, h, hi => by
    obtain rfl : y = x := by simpa using h
    rw [List.flatMap_cons, Nat.zero_mul, Nat.zero_add, List.getElem?_append_left (by rw [hf]; exact hi)]
  | y :: l, j + 1, x, i, h, hi => by
    rw [List.flatMap_cons, List.getElem?_append_right (by rw [hf, Nat.succ_mul]; omega), hf, show (j + 1) * k + i - k = j * k + i by rw [Nat.succ_mul]; omega]
    exact flat_nthP hf l j x i (by simpa using h) hi
theorem Rd.getP {w : World} {A : Option Addr} {n c : Nat} {es : List Pr} (h : Rd w 3 A n c (es.flatMap Pr.cells)) {j : Nat} {e : Pr} (he : es[j]? = some e) :
    ∃ ad, A = some ad ∧ ad.block < w.heap.size ∧ w.cell? (ad.add (j * 3)) = some (.string e.key) ∧ w.cell? ⟨(ad.add (j * 3)).block, (ad.add (j * 3)).off + 1, none⟩ = some (.string e.value) ∧ w.cell? ⟨(ad.add (j * 3)).block, (ad.add (j * 3)).off + 2, none⟩ = some (.bool e.gone) := by
  have h0 := flat_nthP (f := Pr.cells) (k := 3) (fun _ => rfl) es j e 0 he (by omega)
  have h1 := flat_nthP (f := Pr.cells) (k := 3) (fun _ => rfl) es j e 1 he (by omega)
  have h2 := flat_nthP (f := Pr.cells) (k := 3) (fun _ => rfl) es j e 2 he (by omega)
  obtain ⟨ad, e1, hb, hc0⟩ := h.at_ h0
  obtain ⟨ad', e2, _, hc1⟩ := h.at_ h1
  obtain ⟨ad'', e3, _, hc2⟩ := h.at_ h2
  rw [e1] at e2 e3
  obtain rfl : ad = ad' := by injection e2
  obtain rfl : ad = ad'' := by injection e3
  rw [← add_add'] at hc1 hc2
  exact ⟨ad, e1, hb, hc0, hc1, hc2⟩
theorem Rd.lenP {w : World} {A : Option Addr} {n c : Nat} {es : List Pr} (h : Rd w 3 A n c (es.flatMap Pr.cells)) : es.length = n := by
  have := h.1
  rw [flat_len Pr.cells 3 (fun _ => rfl)] at this
  omega
theorem ba_extP {a b : ByteArray} (h : a.data.toList = b.data.toList) : a = b := by
  cases a; cases b
  congr 1
  exact Array.toList_inj.1 h
theorem str_someP {s : ByteArray} (h : 0 < s.size) : s.toList.isEmpty = false ∧ ¬ s.toList = [] := by
  have : ¬ s.toList = [] := by
    rw [Lib.toList_data]
    intro h'
    have h4 : s.data.toList.length = s.size := rfl
    rw [← h4, h'] at h
    exact absurd h (by simp)
  refine ⟨?_, this⟩
  cases hs : s.toList with
  | nil => exact absurd hs this
  | cons a l => rfl
theorem str_noneP {s : ByteArray} (h : s.size = 0) : s = ⟨#[]⟩ := ba_extP (List.eq_nil_of_length_eq_zero (show s.data.toList.length = 0 from h))

/-- what is wrong with a key -/
def keyK (s : ByteArray) : Int := if s.size = 0 then 2 else if 200 < s.size then 4 else 0
theorem keyK_none {s : ByteArray} (h : s.size = 0) : keyK s = 2 := if_pos h
theorem keyK_long {s : ByteArray} (h : 200 < s.size) : keyK s = 4 := by unfold keyK; rw [if_neg (by omega), if_pos h]
theorem keyK_ok {s : ByteArray} (h : 0 < s.size) (h2 : s.size ≤ 200) : keyK s = 0 := by unfold keyK; rw [if_neg (by omega), if_neg (by omega)]
theorem keyK_zero {s : ByteArray} : keyK s = 0 ↔ 0 < s.size ∧ s.size ≤ 200 := by
  constructor
  · intro h
    unfold keyK at h
    split at h
    · cases h
    · split at h
      · cases h
      · omega
  · rintro ⟨h, h2⟩
    exact keyK_ok h h2
set_option maxRecDepth 100000 in
theorem Key_any (s : ByteArray) (w : World) :
    Calls Tryd.prog 62 #[.string s] w fun e w' => e = .returned (errR (keyK s)) ∧ w = w' := by
  have hh : s.size = 0 ∨ (0 < s.size ∧ 200 < s.size) ∨ (0 < s.size ∧ s.size ≤ 200) := by omega
  rcases hh with h | ⟨h, h2⟩ | ⟨h, h2⟩
  · obtain rfl := str_noneP h
    go_enter Tryd.func62, Tryd.ntmps62
    go_wp2_with fail
    go_ret
    exact ⟨rfl, rfl⟩
  · obtain ⟨q1, q2⟩ := str_someP h
    have HK := Lib.hid (keyK_long h2)
    go_enter Tryd.func62, Tryd.ntmps62
    go_wp2_with fail
    go_ret
    exact ⟨by rw [HK.out]; rfl, rfl⟩
  · obtain ⟨q1, q2⟩ := str_someP h
    have HK := Lib.hid (keyK_ok h h2)
    go_enter Tryd.func62, Tryd.ntmps62
    go_wp2_with fail
    go_ret
    exact ⟨by rw [HK.out]; rfl, rfl⟩
end Go.Proofs.YtcgfdhgceokcnaaDoor

/- The order of keys, plain; lists of pairs in that order. -/
namespace Go.Proofs.YtcgfdhgceokcnaaDoor
open Go.RowKit
set_option linter.unusedVariables false

/-- one key is ahead of another one -/
def kLt (a b : ByteArray) : Bool := Op.bytesLess a.data.toList b.data.toList
theorem bl_irrefl : ∀ a : List UInt8, Op.bytesLess a a = false
  | [] => rfl
  | x :: a => by
    unfold Op.bytesLess
    rw [bl_irrefl a]
    simp
theorem bl_trans : ∀ {a b c : List UInt8}, Op.bytesLess a b = true → Op.bytesLess b c = true → Op.bytesLess a c = true
  | [], [], c, h, _ => by cases h
  | x :: a, [], c, h, _ => by cases h
  | [], y :: b, [], h, k => by cases k
  | x :: a, y :: b, [], h, k => by cases k
  | [], y :: b, z :: c, h, k => rfl
  | x :: a, y :: b, z :: c, h, k => by
    unfold Op.bytesLess at h k ⊢
    simp only [Bool.or_eq_true, Bool.and_eq_true, decide_eq_true_eq, beq_iff_eq] at h k ⊢
    rcases h with h | ⟨rfl, h⟩
    · rcases k with k | ⟨rfl, k⟩
      · exact .inl (UInt8.lt_trans h k)
      · exact .inl h
    · rcases k with k | ⟨rfl, k⟩
      · exact .inl k
      · exact .inr ⟨rfl, bl_trans h k⟩
theorem bl_cmp : ∀ a b : List UInt8, Lib.compareBytes a b = if Op.bytesLess a b = true then -1 else if a = b then 0 else 1
  | [], [] => rfl
  | [], y :: b => by simp [Lib.compareBytes, Op.bytesLess]
  | x :: a, [] => by simp [Lib.compareBytes, Op.bytesLess]
  | x :: a, y :: b => by
    unfold Lib.compareBytes Op.bytesLess
    by_cases h : x < y
    · simp [h]
    · by_cases h2 : y < x
      · have hne : x ≠ y := fun e => h (e ▸ h2)
        simp [h, h2, hne]
      · have he : x = y := UInt8.le_antisymm (UInt8.not_lt.1 h2) (UInt8.not_lt.1 h)
        subst he
        rw [if_neg h, if_neg h, bl_cmp a b]
        simp [h]
theorem bl_total {a b : List UInt8} (h : Op.bytesLess a b = false) : a = b ∨ Op.bytesLess b a = true := by
  induction a generalizing b with
  | nil =>
    cases b with
    | nil => exact .inl rfl
    | cons y b => cases h
  | cons x a ih =>
    cases b with
    | nil => exact .inr rfl
    | cons y b =>
      unfold Op.bytesLess at h ⊢
      simp only [Bool.or_eq_false_iff, Bool.and_eq_false_iff, decide_eq_false_iff_not, Bool.or_eq_true, Bool.and_eq_true, decide_eq_true_eq, beq_iff_eq, beq_eq_false_iff_ne] at h ⊢
      by_cases h2 : y < x
      · exact .inr (.inl h2)
      · have he : x = y := UInt8.le_antisymm (UInt8.not_lt.1 h2) (UInt8.not_lt.1 h.1)
        subst he
        rcases h.2 with h3 | h3
        · exact absurd rfl h3
        · rcases ih h3 with rfl | h4
          · exact .inl rfl
          · exact .inr (.inr ⟨rfl, h4⟩)
theorem kLt_irrefl (a : ByteArray) : kLt a a = false := bl_irrefl _
theorem kLt_trans {a b c : ByteArray} (h : kLt a b = true) (k : kLt b c = true) : kLt a c = true := bl_trans h k
theorem bytes_ext {a b : ByteArray} (h : a.data.toList = b.data.toList) : a = b := by
  obtain ⟨⟨a⟩⟩ := a
  obtain ⟨⟨b⟩⟩ := b
  simp at h
  rw [h]
theorem kLt_total {a b : ByteArray} (h : kLt a b = false) : a = b ∨ kLt b a = true := (bl_total h).imp bytes_ext id
theorem kLt_asymm {a b : ByteArray} (h : kLt a b = true) : kLt b a = false := by
  cases hb : kLt b a with
  | false => rfl
  | true => have := kLt_trans h hb; rw [kLt_irrefl] at this; cases this
theorem kCmp (a b : ByteArray) : Lib.compareBytes a.data.toList b.data.toList = if kLt a b = true then -1 else if a = b then 0 else 1 := by
  rw [bl_cmp]
  unfold kLt
  split
  · rfl
  · by_cases h : a = b
    · rw [if_pos h, if_pos (by rw [h])]
    · rw [if_neg h, if_neg (fun e => h (bytes_ext e))]
theorem kLt_op (a b : ByteArray) : Op.bytesLess a.toList b.toList = kLt a b := by unfold kLt; rw [Lib.toList_data, Lib.toList_data]

/-- in order -/
def Asc (es : List Pr) : Prop := ∀ (i j : Nat) (p q : Pr), es[i]? = some p → es[j]? = some q → i < j → kLt p.key q.key = true
/-- how many are ahead of a key -/
def lowN (es : List Pr) (key : ByteArray) : Nat := es.countP (fun p => kLt p.key key)
def hasB (es : List Pr) (key : ByteArray) : Bool := match es[lowN es key]? with | some p => decide (p.key = key) | none => false
theorem lowN_le (es : List Pr) (key : ByteArray) : lowN es key ≤ es.length := List.countP_le_length
theorem Asc.nil : Asc [] := fun i j p q h => by simp at h
theorem Asc.tail {p : Pr} {es : List Pr} (h : Asc (p :: es)) : Asc es := fun i j a b ha hb hij => h (i + 1) (j + 1) a b (by simpa using ha) (by simpa using hb) (by omega)
/-- where the border lies -/
theorem lowN_border : ∀ {es : List Pr} {key : ByteArray} {i : Nat}, i ≤ es.length → (∀ (t : Nat) (p : Pr), t < i → es[t]? = some p → kLt p.key key = true) → (∀ (t : Nat) (p : Pr), i ≤ t → es[t]? = some p → kLt p.key key = false) → lowN es key = i
  | [], key, i, h, _, _ => by simp at h; subst h; rfl
  | p :: es, key, 0, _, _, h2 => by
    have hp := h2 0 p (by omega) rfl
    have ih := lowN_border (es := es) (key := key) (i := 0) (by omega) (fun t q ht => absurd ht (Nat.not_lt_zero _)) (fun t q ht hq => h2 (t + 1) q (by omega) (by simpa using hq))
    unfold lowN at ih ⊢
    rw [List.countP_cons_of_neg (by rw [hp]; simp), ih]
  | p :: es, key, i + 1, h, h1, h2 => by
    have hp := h1 0 p (by omega) rfl
    have ih := lowN_border (es := es) (key := key) (i := i) (by simpa using h) (fun t q ht hq => h1 (t + 1) q (by omega) (by simpa using hq)) (fun t q ht hq => h2 (t + 1) q (by omega) (by simpa using hq))
    unfold lowN at ih ⊢
    rw [List.countP_cons_of_pos (p := fun p : Pr => kLt p.key key) hp, ih]
theorem lowN_cons (p : Pr) (es : List Pr) (key : ByteArray) : lowN (p :: es) key = lowN es key + if kLt p.key key = true then 1 else 0 := by
  unfold lowN
  rw [List.countP_cons]
theorem low_side : ∀ {es : List Pr} (h : Asc es) (key : ByteArray), (∀ (t : Nat) (p : Pr), t < lowN es key → es[t]? = some p → kLt p.key key = true) ∧ (∀ (t : Nat) (p : Pr), lowN es key ≤ t → es[t]? = some p → kLt p.key key = false)
  | [], _, key => ⟨fun t p h => by simp [lowN] at h, fun t p _ h => by simp at h⟩
  | p :: es, h, key => by
    obtain ⟨i1, i2⟩ := low_side h.tail key
    rw [lowN_cons]
    cases hp : kLt p.key key with
    | true =>
      rw [if_pos rfl]
      refine ⟨fun t q ht hq => ?_, fun t q ht hq => ?_⟩
      · cases t with
        | zero => obtain rfl : p = q := by simpa using hq
                  exact hp
        | succ t => exact i1 t q (by omega) (by simpa using hq)
      · cases t with
        | zero => omega
        | succ t => exact i2 t q (by omega) (by simpa using hq)
    | false =>
      rw [if_neg (by decide)]
      have hz : ∀ (t : Nat) (q : Pr), es[t]? = some q → kLt q.key key = false := fun t q hq => by
        have h1 := h 0 (t + 1) p q rfl (by simpa using hq) (by omega)
        cases hqk : kLt q.key key with
        | false => rfl
        | true => rw [kLt_trans h1 hqk] at hp; cases hp
      have h0 : lowN es key = 0 := lowN_border (Nat.zero_le _) (fun t q ht => absurd ht (Nat.not_lt_zero _)) (fun t q _ hq => hz t q hq)
      rw [h0]
      refine ⟨fun t q ht => absurd ht (Nat.not_lt_zero _), fun t q ht hq => ?_⟩
      cases t with
      | zero => obtain rfl : p = q := by simpa using hq
                exact hp
      | succ t => exact hz t q (by simpa using hq)
end Go.Proofs.YtcgfdhgceokcnaaDoor

/- A store's list, plain: what is put, what is there. -/
namespace Go.Proofs.YtcgfdhgceokcnaaDoor
open Go.RowKit
set_option linter.unusedVariables false

theorem low_eq {es : List Pr} (ho : Asc es) {i : Nat} {p : Pr} {key : ByteArray} (h : es[i]? = some p) (hk : p.key = key) : lowN es key = i := by
  subst hk
  have hi : i < es.length := (List.getElem?_eq_some_iff.1 h).1
  refine lowN_border (Nat.le_of_lt hi) (fun t q ht hq => ho t i q p hq h ht) (fun t q ht hq => ?_)
  rcases Nat.lt_or_eq_of_le ht with h1 | h1
  · exact kLt_asymm (ho i t p q h hq h1)
  · subst h1
    rw [h] at hq
    injection hq with hq
    subst hq
    exact kLt_irrefl _
theorem has_get {es : List Pr} {key : ByteArray} (h : hasB es key = true) : ∃ p, es[lowN es key]? = some p ∧ p.key = key := by
  unfold hasB at h
  cases hq : es[lowN es key]? with
  | none => rw [hq] at h; cases h
  | some p => rw [hq] at h; exact ⟨p, rfl, of_decide_eq_true h⟩
theorem has_of {es : List Pr} (ho : Asc es) {i : Nat} {p : Pr} {key : ByteArray} (h : es[i]? = some p) (hk : p.key = key) : hasB es key = true := by
  unfold hasB
  rw [low_eq ho h hk, h]
  exact decide_eq_true hk
theorem has_none {es : List Pr} (ho : Asc es) {key : ByteArray} (hb : hasB es key = false) {i : Nat} {p : Pr} (h : es[i]? = some p) : p.key ≠ key := fun hk => by
  rw [has_of ho h hk] at hb; cases hb
/-- the pair of a key -/
def getE (es : List Pr) (key : ByteArray) : Option Pr := if hasB es key = true then es[lowN es key]? else none
theorem getE_iff {es : List Pr} (ho : Asc es) {key : ByteArray} {p : Pr} : getE es key = some p ↔ ∃ i : Nat, es[i]? = some p ∧ p.key = key := by
  constructor
  · intro h
    unfold getE at h
    split at h
    · rename_i hb
      obtain ⟨q, hq, hk⟩ := has_get hb
      rw [hq] at h
      injection h with h
      subst h
      exact ⟨_, hq, hk⟩
    · cases h
  · rintro ⟨i, h, hk⟩
    unfold getE
    rw [if_pos (has_of ho h hk), low_eq ho h hk, h]
theorem getE_has {es : List Pr} {key : ByteArray} : (getE es key).isSome = hasB es key := by
  unfold getE
  cases hb : hasB es key with
  | false => rfl
  | true =>
    obtain ⟨q, hq, _⟩ := has_get hb
    rw [if_pos rfl, hq]; rfl

def insL (es : List Pr) (lo : Nat) (p : Pr) : List Pr := es.take lo ++ p :: es.drop lo
theorem ins_get {es : List Pr} {lo : Nat} (h : lo ≤ es.length) (p : Pr) (i : Nat) : (insL es lo p)[i]? = if i < lo then es[i]? else if i = lo then some p else es[i - 1]? := by
  have hl : (es.take lo).length = lo := by rw [List.length_take]; omega
  unfold insL
  by_cases h1 : i < lo
  · rw [if_pos h1, List.getElem?_append_left (by omega), List.getElem?_take, if_pos h1]
  · rw [if_neg h1, List.getElem?_append_right (by omega), hl]
    by_cases h2 : i = lo
    · subst h2
      rw [if_pos rfl, Nat.sub_self]; rfl
    · rw [if_neg h2, show i - lo = (i - 1 - lo) + 1 by omega, List.getElem?_cons_succ, List.getElem?_drop, show lo + (i - 1 - lo) = i - 1 by omega]
theorem ins_len {es : List Pr} {lo : Nat} (h : lo ≤ es.length) (p : Pr) : (insL es lo p).length = es.length + 1 := by
  unfold insL
  rw [List.length_append, List.length_cons, List.length_take, List.length_drop]
  omega
def putL (es : List Pr) (p : Pr) : List Pr := if hasB es p.key = true then es.set (lowN es p.key) p else insL es (lowN es p.key) p
def putK (es : List Pr) (p : Pr) : Int := if keyK p.key ≠ 0 then keyK p.key else if 200 < p.value.size ∨ (hasB es p.key = false ∧ 60 ≤ es.length) then 4 else 0
def storeL (es : List Pr) (p : Pr) : List Pr := if putK es p = 0 then putL es p else es
theorem putL_some {es : List Pr} (ho : Asc es) (p : Pr) {i : Nat} {q : Pr} (h : (putL es p)[i]? = some q) : (q = p ∧ i = lowN es p.key) ∨ (q.key ≠ p.key ∧ ∃ j : Nat, es[j]? = some q ∧ (i < lowN es p.key → j < lowN es p.key) ∧ (lowN es p.key < i → lowN es p.key ≤ j) ∧ i ≠ lowN es p.key) := by
  have hle := lowN_le es p.key
  unfold putL at h
  split at h
  · rename_i hb
    obtain ⟨o, hq, hk⟩ := has_get hb
    by_cases hi : i = lowN es p.key
    · rw [hi, List.getElem?_set_self (List.getElem?_eq_some_iff.1 hq).1] at h
      injection h with h
      exact .inl ⟨h.symm, hi⟩
    · rw [List.getElem?_set_ne (Ne.symm hi)] at h
      refine .inr ⟨fun e => hi (low_eq ho h e).symm, i, h, fun h1 => h1, fun h1 => Nat.le_of_lt h1, hi⟩
  · rename_i hb
    have hb' : hasB es p.key = false := by cases hc : hasB es p.key with | false => rfl | true => exact absurd hc hb
    rw [ins_get hle] at h
    split at h
    · rename_i h1
      exact .inr ⟨has_none ho hb' h, i, h, fun _ => h1, fun h2 => by omega, by omega⟩
    · rename_i h1
      split at h
      · rename_i h2
        injection h with h
        exact .inl ⟨h.symm, h2⟩
      · rename_i h2
        exact .inr ⟨has_none ho hb' h, i - 1, h, fun h3 => by omega, fun h3 => by omega, h2⟩
theorem putL_self {es : List Pr} (ho : Asc es) (p : Pr) : (putL es p)[lowN es p.key]? = some p := by
  unfold putL
  split
  · rename_i hb
    obtain ⟨o, hq, hk⟩ := has_get hb
    exact List.getElem?_set_self (List.getElem?_eq_some_iff.1 hq).1
  · rw [ins_get (lowN_le _ _), if_neg (Nat.lt_irrefl _), if_pos rfl]
theorem putL_old {es : List Pr} (ho : Asc es) (p : Pr) {i : Nat} {q : Pr} (h : es[i]? = some q) (hne : q.key ≠ p.key) : ∃ j : Nat, (putL es p)[j]? = some q := by
  unfold putL
  split
  · rename_i hb
    obtain ⟨o, hq, hk⟩ := has_get hb
    refine ⟨i, ?_⟩
    rw [List.getElem?_set_ne, h]
    intro e
    rw [e, h] at hq
    injection hq with hq
    subst hq
    exact hne hk
  · by_cases h1 : i < lowN es p.key
    · exact ⟨i, by rw [ins_get (lowN_le _ _), if_pos h1, h]⟩
    · exact ⟨i + 1, by rw [ins_get (lowN_le _ _), if_neg (by omega), if_neg (by omega), Nat.add_sub_cancel, h]⟩
theorem ins_mono {es : List Pr} {lo : Nat} {p : Pr} (hle : lo ≤ es.length) {i j : Nat} {a b : Pr} (ha : (insL es lo p)[i]? = some a) (hb : (insL es lo p)[j]? = some b) (hij : i < j) (hi : i ≠ lo) (hj : j ≠ lo) : ∃ i' j' : Nat, es[i']? = some a ∧ es[j']? = some b ∧ i' < j' := by
  rw [ins_get hle] at ha hb
  by_cases h1 : i < lo
  · rw [if_pos h1] at ha
    by_cases h2 : j < lo
    · rw [if_pos h2] at hb
      exact ⟨i, j, ha, hb, hij⟩
    · rw [if_neg h2, if_neg hj] at hb
      exact ⟨i, j - 1, ha, hb, by omega⟩
  · rw [if_neg h1, if_neg hi] at ha
    rw [if_neg (by omega), if_neg hj] at hb
    exact ⟨i - 1, j - 1, ha, hb, by omega⟩
theorem putL_mono {es : List Pr} (ho : Asc es) (p : Pr) {i j : Nat} {a b : Pr} (ha : (putL es p)[i]? = some a) (hb : (putL es p)[j]? = some b) (hij : i < j) (hi : i ≠ lowN es p.key) (hj : j ≠ lowN es p.key) : ∃ i' j' : Nat, es[i']? = some a ∧ es[j']? = some b ∧ i' < j' := by
  unfold putL at ha hb
  split at ha
  · rename_i h
    rw [if_pos h] at hb
    rw [List.getElem?_set_ne (Ne.symm hi)] at ha
    rw [List.getElem?_set_ne (Ne.symm hj)] at hb
    exact ⟨i, j, ha, hb, hij⟩
  · rename_i h
    rw [if_neg h] at hb
    exact ins_mono (lowN_le _ _) ha hb hij hi hj
theorem putL_asc {es : List Pr} (ho : Asc es) (p : Pr) : Asc (putL es p) := by
  intro i j a b ha hb hij
  obtain ⟨l1, l2⟩ := low_side ho p.key
  rcases putL_some ho p ha with ⟨rfl, rfl⟩ | ⟨na, ja, hja, u1, u2, u3⟩
  · rcases putL_some ho a hb with ⟨rfl, rfl⟩ | ⟨nb, jb, hjb, v1, v2, v3⟩
    · omega
    · have h1 := l2 jb b (v2 hij) hjb
      rcases kLt_total h1 with h2 | h2
      · exact absurd h2 nb
      · exact h2
  · rcases putL_some ho p hb with ⟨rfl, rfl⟩ | ⟨nb, jb, hjb, v1, v2, v3⟩
    · exact l1 ja a (u1 hij) hja
    · obtain ⟨i', j', h1, h2, h3⟩ := putL_mono ho p ha hb hij u3 v3
      exact ho i' j' a b h1 h2 h3
theorem putL_len {es : List Pr} (p : Pr) (h : hasB es p.key = true ∨ es.length < 60) (h60 : es.length ≤ 60) : (putL es p).length ≤ 60 := by
  unfold putL
  split
  · rw [List.length_set]; exact h60
  · rename_i hb
    rw [ins_len (lowN_le _ _)]
    rcases h with h | h
    · exact absurd h hb
    · omega
theorem opt_ext {α : Type} {a b : Option α} (h : ∀ x, a = some x ↔ b = some x) : a = b := by
  cases a with
  | none =>
    cases b with
    | none => rfl
    | some y => exact absurd ((h y).2 rfl) (by simp)
  | some x => exact ((h x).1 rfl).symm
theorem get_put {es : List Pr} (ho : Asc es) (p : Pr) (key : ByteArray) : getE (putL es p) key = if p.key = key then some p else getE es key := by
  refine opt_ext fun q => ?_
  rw [getE_iff (putL_asc ho p)]
  constructor
  · rintro ⟨i, hi, hk⟩
    rcases putL_some ho p hi with ⟨rfl, _⟩ | ⟨hn, j, hj, _⟩
    · rw [if_pos hk]
    · rw [if_neg (fun e => hn (hk.trans e.symm))]
      exact (getE_iff ho).2 ⟨j, hj, hk⟩
  · intro h
    split at h
    · rename_i hk
      injection h with h
      subst h
      exact ⟨_, putL_self ho p, hk⟩
    · rename_i hk
      obtain ⟨i, hi, hqk⟩ := (getE_iff ho).1 h
      obtain ⟨j, hj⟩ := putL_old ho p hi (fun e => hk (e.symm.trans hqk))
      exact ⟨j, hj, hqk⟩
theorem putL_mem {es : List Pr} (ho : Asc es) (p : Pr) {q : Pr} (h : q ∈ putL es p) : q = p ∨ q ∈ es := by
  obtain ⟨i, hi⟩ := List.getElem?_of_mem h
  rcases putL_some ho p hi with ⟨h, _⟩ | ⟨_, j, hj, _⟩
  · exact .inl h
  · exact .inr (List.mem_of_getElem? hj)
theorem lowN_mono {es : List Pr} {a b : ByteArray} (h : a = b ∨ kLt a b = true) : lowN es a ≤ lowN es b := by
  rcases h with rfl | h
  · exact Nat.le_refl _
  · unfold lowN
    refine List.countP_mono_left fun x _ hx => kLt_trans hx h

/-! cells -/
theorem flat_take {α : Type} {f : α → List Value} {k : Nat} (hf : ∀ x, (f x).length = k) : ∀ (l : List α) (n : Nat), (l.flatMap f).take (n * k) = (l.take n).flatMap f
  | [], n => by simp
  | x :: l, 0 => by simp
  | x :: l, n + 1 => by
    rw [List.flatMap_cons, List.take_succ_cons, List.flatMap_cons, ← flat_take hf l n, Nat.succ_mul, Nat.add_comm, List.take_append, List.take_of_length_le (by rw [hf]; omega), hf]
    congr 2
    omega
theorem flat_drop {α : Type} {f : α → List Value} {k : Nat} (hf : ∀ x, (f x).length = k) : ∀ (l : List α) (n : Nat), (l.flatMap f).drop (n * k) = (l.drop n).flatMap f
  | [], n => by simp
  | x :: l, 0 => by simp
  | x :: l, n + 1 => by
    rw [List.flatMap_cons, List.drop_succ_cons, ← flat_drop hf l n, Nat.succ_mul, Nat.add_comm, List.drop_append, List.drop_of_length_le (by rw [hf]; omega), hf, List.nil_append]
    congr 1
    omega
theorem cells_ins (es : List Pr) (lo : Nat) (p : Pr) : (es.flatMap Pr.cells).take (lo * 3) ++ p.cells ++ (es.flatMap Pr.cells).drop (lo * 3) = (insL es lo p).flatMap Pr.cells := by
  unfold insL
  rw [flat_take (f := Pr.cells) (k := 3) (fun _ => rfl), flat_drop (f := Pr.cells) (k := 3) (fun _ => rfl), List.flatMap_append, List.flatMap_cons, List.append_assoc]
theorem cells_set : ∀ (es : List Pr) (i : Nat) (p : Pr), i < es.length → (((es.flatMap Pr.cells).set (i * 3) (.string p.key)).set (i * 3 + 1) (.string p.value)).set (i * 3 + 2) (.bool p.gone) = (es.set i p).flatMap Pr.cells
  | [], i, p, h => by simp at h
  | q :: es, 0, p, _ => by simp [Pr.cells]
  | q :: es, i + 1, p, h => by
    have ih := cells_set es i p (by simpa using h)
    rw [List.set_cons_succ, List.flatMap_cons, List.flatMap_cons, ← ih, show (i + 1) * 3 = i * 3 + 3 by omega, show i * 3 + 3 + 1 = i * 3 + 1 + 3 by omega, show i * 3 + 3 + 2 = i * 3 + 2 + 3 by omega]
    rfl
theorem cells_one (es : List Pr) : ∀ v ∈ es.flatMap Pr.cells, v.oneCell' = true := by
  intro v hv
  rw [List.mem_flatMap] at hv
  obtain ⟨p, _, hp⟩ := hv
  simp only [Pr.cells, List.mem_cons, List.not_mem_nil, or_false] at hp
  rcases hp with rfl | rfl | rfl <;> rfl
end Go.Proofs.YtcgfdhgceokcnaaDoor
