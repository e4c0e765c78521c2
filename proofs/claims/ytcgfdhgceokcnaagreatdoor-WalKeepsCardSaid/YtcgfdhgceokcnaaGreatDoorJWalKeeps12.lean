/- append of one that was made there, in a region that draws. -/
import Derived.Test.YtcgfdhgceokcnaaGreatDoorJWalKeeps4
import Derived.Deep.RegionLaw
import Derived.Test.YtcgfdhgceokcnaaGreatDoorJWalKeeps1
import Derived.Test.YtcgfdhgceokcnaaGreatDoorJWalKeeps5
import Derived.Deep.LoopGhost
import Derived.Deep.RegionHeld3
import Derived.Deep.DrawnRows
import Derived.Test.YtcgfdhgceokcnaaGreatDoorJWalKeeps0
import Derived.Lib.SlicesS
import Derived.BigRegion
import Derived.Handy
namespace Go.Proofs.YtcgfdhgceokcnaaGreatDoor
open Go.RowKit Go
set_option linter.unusedVariables false

theorem step_appsL {P : Program} {w : World} {ops : Array Oper} {o : Oper} {a : Act} {K : Act → World → Prop} {Q : Exit → Act → World → Prop} {E : Prop} (hgd : o.guard = none) (s x : Operand) (t : TypeId)
    (ho : o.op = .call { callee := .builtin .append, args := #[s, x], argTypes := #[t, t] })
    (base : Nat) (e : TypeId) (i : TypeInfo) (z : Value) (size bytes : Nat) (ht : P.underlying t = some (.slice e)) (hi : P.info? e = some i) (hz : i.zero = some z)
    (hsize : i.size = size) (hby : i.bytes = bytes) (hzs : z.cells.size = size) (hsz : 0 < size)
    (v : Value) (n : Nat) (xs : List Value) (hs : a.eval s = v) (hown : w.ownsRow base e size v n xs)
    (ad : Addr) (m c : Nat) (news : List Value) (hx : a.eval x = .slice (some ad) m c) (hl : news.length = m * size) (hnews : ∀ j u, news[j]? = some u → w.cell? (ad.add j) = some u) (h1 : ∀ u ∈ news, u.oneCell' = true)
    (hm : 0 < m) (h63 : n + m ≤ 1000000000) (hbytes : bytes ≤ 1000) (hbase : base ≤ w.heap.size)
    (h : ∀ g cap w', w'.ownsRow base e size (.slice (some ⟨g, 0, none⟩) (n + m) cap) (n + m) (xs ++ news) → w.grownBy w' v.ownBlock → (v.ownBlock = some g ∨ g = w.heap.size) → g < w'.heap.size → K (a.put o.dst (.slice (some ⟨g, 0, none⟩) (n + m) cap)) w') :
    if Region.wanted o (yielded ops a.tmps) = true then Oper.wp P o a w K Q else E := by
  have hw : Region.wanted o (yielded ops a.tmps) = true := by simp [Region.wanted, hgd]
  rw [if_pos hw]
  exact wp_append_lies w s x t ho base e i z size bytes ht hi hz hsize hby hzs hsz v n xs hs hown ad m c news hx hl hnews h1 hm (by simp only [maxLen]; omega)
    (by have := Nat.mul_le_mul (show n + m ≤ 1000000000 by omega) hbytes; omega) hbase _ rfl h
end Go.Proofs.YtcgfdhgceokcnaaGreatDoor

/- Pairs: what they are, and store.Key. -/
namespace Go.Proofs.YtcgfdhgceokcnaaGreatDoor
open Go.RowKit
set_option linter.unusedVariables false
attribute [local go_sem ↓] Go.wp_at_zero Go.wp_at_succ

theorem flat_nthP {α : Type} {f : α → List Value} {k : Nat} (hf : ∀ x, (f x).length = k) : ∀ (l : List α) (j : Nat) (x : α) (i : Nat), l[j]? = some x → i < k → (l.flatMap f)[j * k + i]? = (f x)[i]?
  | [], j, x, i, h, _ => by simp at h
  | y :: l, 0, x, i, h, hi => by
    obtain rfl : y = x := by simpa using h
    rw [List.flatMap_cons, Nat.zero_mul, Nat.zero_add, List.getElem?_append_left (by rw [hf]; exact hi)]
  | y :: l, j + 1, x, i, h, hi => by
    rw [List.flatMap_cons, List.getElem?_append_right (by rw [hf, Nat.succ_mul]; omega), hf, show (j + 1) * k + i - k = j * k + i by rw [Nat.succ_mul]; omega]
    exact flat_nthP hf l j x i (by simpa using h) hi
theorem Rd.getP {w : World} {A : Option Addr} {n c : Nat} {es : List Pr} (h : Rd w 3 A n c (es.flatMap Pr.cells)) {j : Nat} {e : Pr} (he : es[j]? = some e) :
    ∃ ad, A = some ad ∧ ad.block < w.heap.size ∧ w.cell? (ad.add (j * 3)) = some (.string e.key) ∧ w.cell? ⟨(ad.add (j * 3)).block, (ad.add (j * 3)).off + 1, none⟩ = some (.string e.value) ∧ w.cell? ⟨(ad.add (j * 3)).block, (ad.add (j * 3)).off + 2, none⟩ = some (.bool e.gone) := by
  have h0 := flat_nthP (f := Pr.cells) (k := 3) (fun _ => rfl) es j e 0 he (by omega)
  have h1 := flat_nthP (f := Pr.cells) (k := 3) (fun _ => rfl) es j e 1 he (by omega)
  have h2 := flat_nthP (f := Pr.cells) (k := 3) (fun _ => rfl) es j e 2 he (by omega)
  obtain ⟨ad, e1, hb, hc0⟩ := h.at_ h0
  obtain ⟨ad', e2, _, hc1⟩ := h.at_ h1
  obtain ⟨ad'', e3, _, hc2⟩ := h.at_ h2
  rw [e1] at e2 e3
  obtain rfl : ad = ad' := by injection e2
  obtain rfl : ad = ad'' := by injection e3
  rw [← add_add'] at hc1 hc2
  exact ⟨ad, e1, hb, hc0, hc1, hc2⟩
theorem Rd.lenP {w : World} {A : Option Addr} {n c : Nat} {es : List Pr} (h : Rd w 3 A n c (es.flatMap Pr.cells)) : es.length = n := by
  have := h.1
  rw [flat_len Pr.cells 3 (fun _ => rfl)] at this
  omega
theorem ba_extP {a b : ByteArray} (h : a.data.toList = b.data.toList) : a = b := by
  cases a; cases b
  congr 1
  exact Array.toList_inj.1 h
theorem str_someP {s : ByteArray} (h : 0 < s.size) : s.toList.isEmpty = false ∧ ¬ s.toList = [] := by
  have : ¬ s.toList = [] := by
    rw [Lib.toList_data]
    intro h'
    have h4 : s.data.toList.length = s.size := rfl
    rw [← h4, h'] at h
    exact absurd h (by simp)
  refine ⟨?_, this⟩
  cases hs : s.toList with
  | nil => exact absurd hs this
  | cons a l => rfl
theorem str_noneP {s : ByteArray} (h : s.size = 0) : s = ⟨#[]⟩ := ba_extP (List.eq_nil_of_length_eq_zero (show s.data.toList.length = 0 from h))

/-- what is wrong with a key -/
def keyK (s : ByteArray) : Int := if s.size = 0 then 2 else if 200 < s.size then 4 else 0
theorem keyK_none {s : ByteArray} (h : s.size = 0) : keyK s = 2 := if_pos h
theorem keyK_long {s : ByteArray} (h : 200 < s.size) : keyK s = 4 := by unfold keyK; rw [if_neg (by omega), if_pos h]
theorem keyK_ok {s : ByteArray} (h : 0 < s.size) (h2 : s.size ≤ 200) : keyK s = 0 := by unfold keyK; rw [if_neg (by omega), if_neg (by omega)]
theorem keyK_zero {s : ByteArray} : keyK s = 0 ↔ 0 < s.size ∧ s.size ≤ 200 := by
  constructor
  · intro h
    unfold keyK at h
    split at h
    · cases h
    · split at h
      · cases h
      · omega
  · rintro ⟨h, h2⟩
    exact keyK_ok h h2
set_option maxRecDepth 100000 in
theorem Key_any (s : ByteArray) (w : World) :
    Calls Tryz.prog 140 #[.string s] w fun e w' => e = .returned (errR (keyK s)) ∧ w = w' := by
  have hh : s.size = 0 ∨ (0 < s.size ∧ 200 < s.size) ∨ (0 < s.size ∧ s.size ≤ 200) := by omega
  rcases hh with h | ⟨h, h2⟩ | ⟨h, h2⟩
  · obtain rfl := str_noneP h
    go_enter Tryz.func140, Tryz.ntmps140
    go_wp2_with fail
    go_ret
    exact ⟨rfl, rfl⟩
  · obtain ⟨q1, q2⟩ := str_someP h
    have HK := Lib.hid (keyK_long h2)
    go_enter Tryz.func140, Tryz.ntmps140
    go_wp2_with fail
    go_ret
    exact ⟨by rw [HK.out]; rfl, rfl⟩
  · obtain ⟨q1, q2⟩ := str_someP h
    have HK := Lib.hid (keyK_ok h h2)
    go_enter Tryz.func140, Tryz.ntmps140
    go_wp2_with fail
    go_ret
    exact ⟨by rw [HK.out]; rfl, rfl⟩
end Go.Proofs.YtcgfdhgceokcnaaGreatDoor

/- The order of keys, plain; lists of pairs in that order. -/
namespace Go.Proofs.YtcgfdhgceokcnaaGreatDoor
open Go.RowKit
set_option linter.unusedVariables false

/-- one key is ahead of another one -/
def kLt (a b : ByteArray) : Bool := Op.bytesLess a.data.toList b.data.toList
theorem bl_irrefl : ∀ a : List UInt8, Op.bytesLess a a = false
  | [] => rfl
  | x :: a => by
    unfold Op.bytesLess
    rw [bl_irrefl a]
    simp
theorem bl_trans : ∀ {a b c : List UInt8}, Op.bytesLess a b = true → Op.bytesLess b c = true → Op.bytesLess a c = true
  | [], [], c, h, _ => by cases h
  | x :: a, [], c, h, _ => by cases h
  | [], y :: b, [], h, k => by cases k
  | x :: a, y :: b, [], h, k => by cases k
  | [], y :: b, z :: c, h, k => rfl
  | x :: a, y :: b, z :: c, h, k => by
    unfold Op.bytesLess at h k ⊢
    simp only [Bool.or_eq_true, Bool.and_eq_true, decide_eq_true_eq, beq_iff_eq] at h k ⊢
    rcases h with h | ⟨rfl, h⟩
    · rcases k with k | ⟨rfl, k⟩
      · exact .inl (UInt8.lt_trans h k)
      · exact .inl h
    · rcases k with k | ⟨rfl, k⟩
      · exact .inl k
      · exact .inr ⟨rfl, bl_trans h k⟩
theorem bl_cmp : ∀ a b : List UInt8, Lib.compareBytes a b = if Op.bytesLess a b = true then -1 else if a = b then 0 else 1
  | [], [] => rfl
  | [], y :: b => by simp [Lib.compareBytes, Op.bytesLess]
  | x :: a, [] => by simp [Lib.compareBytes, Op.bytesLess]
  | x :: a, y :: b => by
    unfold Lib.compareBytes Op.bytesLess
    by_cases h : x < y
    · simp [h]
    · by_cases h2 : y < x
      · have hne : x ≠ y := fun e => h (e ▸ h2)
        simp [h, h2, hne]
      · have he : x = y := UInt8.le_antisymm (UInt8.not_lt.1 h2) (UInt8.not_lt.1 h)
        subst he
        rw [if_neg h, if_neg h, bl_cmp a b]
        simp [h]
theorem bl_total {a b : List UInt8} (h : Op.bytesLess a b = false) : a = b ∨ Op.bytesLess b a = true := by
  induction a generalizing b with
  | nil =>
    cases b with
    | nil => exact .inl rfl
    | cons y b => cases h
  | cons x a ih =>
    cases b with
    | nil => exact .inr rfl
    | cons y b =>
      unfold Op.bytesLess at h ⊢
      simp only [Bool.or_eq_false_iff, Bool.and_eq_false_iff, decide_eq_false_iff_not, Bool.or_eq_true, Bool.and_eq_true, decide_eq_true_eq, beq_iff_eq, beq_eq_false_iff_ne] at h ⊢
      by_cases h2 : y < x
      · exact .inr (.inl h2)
      · have he : x = y := UInt8.le_antisymm (UInt8.not_lt.1 h2) (UInt8.not_lt.1 h.1)
        subst he
        rcases h.2 with h3 | h3
        · exact absurd rfl h3
        · rcases ih h3 with rfl | h4
          · exact .inl rfl
          · exact .inr (.inr ⟨rfl, h4⟩)
theorem kLt_irrefl (a : ByteArray) : kLt a a = false := bl_irrefl _
theorem kLt_trans {a b c : ByteArray} (h : kLt a b = true) (k : kLt b c = true) : kLt a c = true := bl_trans h k
theorem bytes_ext {a b : ByteArray} (h : a.data.toList = b.data.toList) : a = b := by
  obtain ⟨⟨a⟩⟩ := a
  obtain ⟨⟨b⟩⟩ := b
  simp at h
  rw [h]
theorem kLt_total {a b : ByteArray} (h : kLt a b = false) : a = b ∨ kLt b a = true := (bl_total h).imp bytes_ext id
theorem kLt_asymm {a b : ByteArray} (h : kLt a b = true) : kLt b a = false := by
  cases hb : kLt b a with
  | false => rfl
  | true => have := kLt_trans h hb; rw [kLt_irrefl] at this; cases this
theorem kCmp (a b : ByteArray) : Lib.compareBytes a.data.toList b.data.toList = if kLt a b = true then -1 else if a = b then 0 else 1 := by
  rw [bl_cmp]
  unfold kLt
  split
  · rfl
  · by_cases h : a = b
    · rw [if_pos h, if_pos (by rw [h])]
    · rw [if_neg h, if_neg (fun e => h (bytes_ext e))]
theorem kLt_op (a b : ByteArray) : Op.bytesLess a.toList b.toList = kLt a b := by unfold kLt; rw [Lib.toList_data, Lib.toList_data]

/-- in order -/
def Asc (es : List Pr) : Prop := ∀ (i j : Nat) (p q : Pr), es[i]? = some p → es[j]? = some q → i < j → kLt p.key q.key = true
/-- how many are ahead of a key -/
def lowN (es : List Pr) (key : ByteArray) : Nat := es.countP (fun p => kLt p.key key)
def hasB (es : List Pr) (key : ByteArray) : Bool := match es[lowN es key]? with | some p => decide (p.key = key) | none => false
theorem lowN_le (es : List Pr) (key : ByteArray) : lowN es key ≤ es.length := List.countP_le_length
theorem Asc.nil : Asc [] := fun i j p q h => by simp at h
theorem Asc.tail {p : Pr} {es : List Pr} (h : Asc (p :: es)) : Asc es := fun i j a b ha hb hij => h (i + 1) (j + 1) a b (by simpa using ha) (by simpa using hb) (by omega)
/-- where the border lies -/
theorem lowN_border : ∀ {es : List Pr} {key : ByteArray} {i : Nat}, i ≤ es.length → (∀ (t : Nat) (p : Pr), t < i → es[t]? = some p → kLt p.key key = true) → (∀ (t : Nat) (p : Pr), i ≤ t → es[t]? = some p → kLt p.key key = false) → lowN es key = i
  | [], key, i, h, _, _ => by simp at h; subst h; rfl
  | p :: es, key, 0, _, _, h2 => by
    have hp := h2 0 p (by omega) rfl
    have ih := lowN_border (es := es) (key := key) (i := 0) (by omega) (fun t q ht => absurd ht (Nat.not_lt_zero _)) (fun t q ht hq => h2 (t + 1) q (by omega) (by simpa using hq))
    unfold lowN at ih ⊢
    rw [List.countP_cons_of_neg (by rw [hp]; simp), ih]
  | p :: es, key, i + 1, h, h1, h2 => by
    have hp := h1 0 p (by omega) rfl
    have ih := lowN_border (es := es) (key := key) (i := i) (by simpa using h) (fun t q ht hq => h1 (t + 1) q (by omega) (by simpa using hq)) (fun t q ht hq => h2 (t + 1) q (by omega) (by simpa using hq))
    unfold lowN at ih ⊢
    rw [List.countP_cons_of_pos (p := fun p : Pr => kLt p.key key) hp, ih]
theorem lowN_cons (p : Pr) (es : List Pr) (key : ByteArray) : lowN (p :: es) key = lowN es key + if kLt p.key key = true then 1 else 0 := by
  unfold lowN
  rw [List.countP_cons]
theorem low_side : ∀ {es : List Pr} (h : Asc es) (key : ByteArray), (∀ (t : Nat) (p : Pr), t < lowN es key → es[t]? = some p → kLt p.key key = true) ∧ (∀ (t : Nat) (p : Pr), lowN es key ≤ t → es[t]? = some p → kLt p.key key = false)
  | [], _, key => ⟨fun t p h => by simp [lowN] at h, fun t p _ h => by simp at h⟩
  | p :: es, h, key => by
    obtain ⟨i1, i2⟩ := low_side h.tail key
    rw [lowN_cons]
    cases hp : kLt p.key key with
    | true =>
      rw [if_pos rfl]
      refine ⟨fun t q ht hq => ?_, fun t q ht hq => ?_⟩
      · cases t with
        | zero => obtain rfl : p = q := by simpa using hq
                  exact hp
        | succ t => exact i1 t q (by omega) (by simpa using hq)
      · cases t with
        | zero => omega
        | succ t => exact i2 t q (by omega) (by simpa using hq)
    | false =>
      rw [if_neg (by decide)]
      have hz : ∀ (t : Nat) (q : Pr), es[t]? = some q → kLt q.key key = false := fun t q hq => by
        have h1 := h 0 (t + 1) p q rfl (by simpa using hq) (by omega)
        cases hqk : kLt q.key key with
        | false => rfl
        | true => rw [kLt_trans h1 hqk] at hp; cases hp
      have h0 : lowN es key = 0 := lowN_border (Nat.zero_le _) (fun t q ht => absurd ht (Nat.not_lt_zero _)) (fun t q _ hq => hz t q hq)
      rw [h0]
      refine ⟨fun t q ht => absurd ht (Nat.not_lt_zero _), fun t q ht hq => ?_⟩
      cases t with
      | zero => obtain rfl : p = q := by simpa using hq
                exact hp
      | succ t => exact hz t q (by simpa using hq)
end Go.Proofs.YtcgfdhgceokcnaaGreatDoor
