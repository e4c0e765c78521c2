/- A store's list, plain: what is put, what is there. -/
import Derived.Test.YtcgfdhgceokcnaaGreatDoorJWalKeeps12
import Derived.Test.YtcgfdhgceokcnaaGreatDoorJWalKeeps4
import Derived.Deep.DeepCutAuto
import Derived.Deep.CutRange
namespace Go.Proofs.YtcgfdhgceokcnaaGreatDoor
open Go.RowKit
set_option linter.unusedVariables false

theorem low_eq {es : List Pr} (ho : Asc es) {i : Nat} {p : Pr} {key : ByteArray} (h : es[i]? = some p) (hk : p.key = key) : lowN es key = i := by
  subst hk
  have hi : i < es.length := (List.getElem?_eq_some_iff.1 h).1
  refine lowN_border (Nat.le_of_lt hi) (fun t q ht hq => ho t i q p hq h ht) (fun t q ht hq => ?_)
  rcases Nat.lt_or_eq_of_le ht with h1 | h1
  · exact kLt_asymm (ho i t p q h hq h1)
  · subst h1
    rw [h] at hq
    injection hq with hq
    subst hq
    exact kLt_irrefl _
theorem has_get {es : List Pr} {key : ByteArray} (h : hasB es key = true) : ∃ p, es[lowN es key]? = some p ∧ p.key = key := by
  unfold hasB at h
  cases hq : es[lowN es key]? with
  | none => rw [hq] at h; cases h
  | some p => rw [hq] at h; exact ⟨p, rfl, of_decide_eq_true h⟩
theorem has_of {es : List Pr} (ho : Asc es) {i : Nat} {p : Pr} {key : ByteArray} (h : es[i]? = some p) (hk : p.key = key) : hasB es key = true := by
  unfold hasB
  rw [low_eq ho h hk, h]
  exact decide_eq_true hk
theorem has_none {es : List Pr} (ho : Asc es) {key : ByteArray} (hb : hasB es key = false) {i : Nat} {p : Pr} (h : es[i]? = some p) : p.key ≠ key := fun hk => by
  rw [has_of ho h hk] at hb; cases hb
/-- the pair of a key -/
def getE (es : List Pr) (key : ByteArray) : Option Pr := if hasB es key = true then es[lowN es key]? else none
theorem getE_iff {es : List Pr} (ho : Asc es) {key : ByteArray} {p : Pr} : getE es key = some p ↔ ∃ i : Nat, es[i]? = some p ∧ p.key = key := by
  constructor
  · intro h
    unfold getE at h
    split at h
    · rename_i hb
      obtain ⟨q, hq, hk⟩ := has_get hb
      rw [hq] at h
      injection h with h
      subst h
      exact ⟨_, hq, hk⟩
    · cases h
  · rintro ⟨i, h, hk⟩
    unfold getE
    rw [if_pos (has_of ho h hk), low_eq ho h hk, h]
theorem getE_has {es : List Pr} {key : ByteArray} : (getE es key).isSome = hasB es key := by
  unfold getE
  cases hb : hasB es key with
  | false => rfl
  | true =>
    obtain ⟨q, hq, _⟩ := has_get hb
    rw [if_pos rfl, hq]; rfl

def insL (es : List Pr) (lo : Nat) (p : Pr) : List Pr := es.take lo ++ p :: es.drop lo
theorem ins_get {es : List Pr} {lo : Nat} (h : lo ≤ es.length) (p : Pr) (i : Nat) : (insL es lo p)[i]? = if i < lo then es[i]? else if i = lo then some p else es[i - 1]? := by
  have hl : (es.take lo).length = lo := by rw [List.length_take]; omega
  unfold insL
  by_cases h1 : i < lo
  · rw [if_pos h1, List.getElem?_append_left (by omega), List.getElem?_take, if_pos h1]
  · rw [if_neg h1, List.getElem?_append_right (by omega), hl]
    by_cases h2 : i = lo
    · subst h2
      rw [if_pos rfl, Nat.sub_self]; rfl
    · rw [if_neg h2, show i - lo = (i - 1 - lo) + 1 by omega, List.getElem?_cons_succ, List.getElem?_drop, show lo + (i - 1 - lo) = i - 1 by omega]
theorem ins_len {es : List Pr} {lo : Nat} (h : lo ≤ es.length) (p : Pr) : (insL es lo p).length = es.length + 1 := by
  unfold insL
  rw [List.length_append, List.length_cons, List.length_take, List.length_drop]
  omega
def putL (es : List Pr) (p : Pr) : List Pr := if hasB es p.key = true then es.set (lowN es p.key) p else insL es (lowN es p.key) p
def putK (es : List Pr) (p : Pr) : Int := if keyK p.key ≠ 0 then keyK p.key else if 200 < p.value.size ∨ (hasB es p.key = false ∧ 60 ≤ es.length) then 4 else 0
def storeL (es : List Pr) (p : Pr) : List Pr := if putK es p = 0 then putL es p else es
theorem putL_some {es : List Pr} (ho : Asc es) (p : Pr) {i : Nat} {q : Pr} (h : (putL es p)[i]? = some q) : (q = p ∧ i = lowN es p.key) ∨ (q.key ≠ p.key ∧ ∃ j : Nat, es[j]? = some q ∧ (i < lowN es p.key → j < lowN es p.key) ∧ (lowN es p.key < i → lowN es p.key ≤ j) ∧ i ≠ lowN es p.key) := by
  have hle := lowN_le es p.key
  unfold putL at h
  split at h
  · rename_i hb
    obtain ⟨o, hq, hk⟩ := has_get hb
    by_cases hi : i = lowN es p.key
    · rw [hi, List.getElem?_set_self (List.getElem?_eq_some_iff.1 hq).1] at h
      injection h with h
      exact .inl ⟨h.symm, hi⟩
    · rw [List.getElem?_set_ne (Ne.symm hi)] at h
      refine .inr ⟨fun e => hi (low_eq ho h e).symm, i, h, fun h1 => h1, fun h1 => Nat.le_of_lt h1, hi⟩
  · rename_i hb
    have hb' : hasB es p.key = false := by cases hc : hasB es p.key with | false => rfl | true => exact absurd hc hb
    rw [ins_get hle] at h
    split at h
    · rename_i h1
      exact .inr ⟨has_none ho hb' h, i, h, fun _ => h1, fun h2 => by omega, by omega⟩
    · rename_i h1
      split at h
      · rename_i h2
        injection h with h
        exact .inl ⟨h.symm, h2⟩
      · rename_i h2
        exact .inr ⟨has_none ho hb' h, i - 1, h, fun h3 => by omega, fun h3 => by omega, h2⟩
theorem putL_self {es : List Pr} (ho : Asc es) (p : Pr) : (putL es p)[lowN es p.key]? = some p := by
  unfold putL
  split
  · rename_i hb
    obtain ⟨o, hq, hk⟩ := has_get hb
    exact List.getElem?_set_self (List.getElem?_eq_some_iff.1 hq).1
  · rw [ins_get (lowN_le _ _), if_neg (Nat.lt_irrefl _), if_pos rfl]
theorem putL_old {es : List Pr} (ho : Asc es) (p : Pr) {i : Nat} {q : Pr} (h : es[i]? = some q) (hne : q.key ≠ p.key) : ∃ j : Nat, (putL es p)[j]? = some q := by
  unfold putL
  split
  · rename_i hb
    obtain ⟨o, hq, hk⟩ := has_get hb
    refine ⟨i, ?_⟩
    rw [List.getElem?_set_ne, h]
    intro e
    rw [e, h] at hq
    injection hq with hq
    subst hq
    exact hne hk
  · by_cases h1 : i < lowN es p.key
    · exact ⟨i, by rw [ins_get (lowN_le _ _), if_pos h1, h]⟩
    · exact ⟨i + 1, by rw [ins_get (lowN_le _ _), if_neg (by omega), if_neg (by omega), Nat.add_sub_cancel, h]⟩
theorem ins_mono {es : List Pr} {lo : Nat} {p : Pr} (hle : lo ≤ es.length) {i j : Nat} {a b : Pr} (ha : (insL es lo p)[i]? = some a) (hb : (insL es lo p)[j]? = some b) (hij : i < j) (hi : i ≠ lo) (hj : j ≠ lo) : ∃ i' j' : Nat, es[i']? = some a ∧ es[j']? = some b ∧ i' < j' := by
  rw [ins_get hle] at ha hb
  by_cases h1 : i < lo
  · rw [if_pos h1] at ha
    by_cases h2 : j < lo
    · rw [if_pos h2] at hb
      exact ⟨i, j, ha, hb, hij⟩
    · rw [if_neg h2, if_neg hj] at hb
      exact ⟨i, j - 1, ha, hb, by omega⟩
  · rw [if_neg h1, if_neg hi] at ha
    rw [if_neg (by omega), if_neg hj] at hb
    exact ⟨i - 1, j - 1, ha, hb, by omega⟩
theorem putL_mono {es : List Pr} (ho : Asc es) (p : Pr) {i j : Nat} {a b : Pr} (ha : (putL es p)[i]? = some a) (hb : (putL es p)[j]? = some b) (hij : i < j) (hi : i ≠ lowN es p.key) (hj : j ≠ lowN es p.key) : ∃ i' j' : Nat, es[i']? = some a ∧ es[j']? = some b ∧ i' < j' := by
  unfold putL at ha hb
  split at ha
  · rename_i h
    rw [if_pos h] at hb
    rw [List.getElem?_set_ne (Ne.symm hi)] at ha
    rw [List.getElem?_set_ne (Ne.symm hj)] at hb
    exact ⟨i, j, ha, hb, hij⟩
  · rename_i h
    rw [if_neg h] at hb
    exact ins_mono (lowN_le _ _) ha hb hij hi hj
theorem putL_asc {es : List Pr} (ho : Asc es) (p : Pr) : Asc (putL es p) := by
  intro i j a b ha hb hij
  obtain ⟨l1, l2⟩ := low_side ho p.key
  rcases putL_some ho p ha with ⟨rfl, rfl⟩ | ⟨na, ja, hja, u1, u2, u3⟩
  · rcases putL_some ho a hb with ⟨rfl, rfl⟩ | ⟨nb, jb, hjb, v1, v2, v3⟩
    · omega
    · have h1 := l2 jb b (v2 hij) hjb
      rcases kLt_total h1 with h2 | h2
      · exact absurd h2 nb
      · exact h2
  · rcases putL_some ho p hb with ⟨rfl, rfl⟩ | ⟨nb, jb, hjb, v1, v2, v3⟩
    · exact l1 ja a (u1 hij) hja
    · obtain ⟨i', j', h1, h2, h3⟩ := putL_mono ho p ha hb hij u3 v3
      exact ho i' j' a b h1 h2 h3
theorem putL_len {es : List Pr} (p : Pr) (h : hasB es p.key = true ∨ es.length < 60) (h60 : es.length ≤ 60) : (putL es p).length ≤ 60 := by
  unfold putL
  split
  · rw [List.length_set]; exact h60
  · rename_i hb
    rw [ins_len (lowN_le _ _)]
    rcases h with h | h
    · exact absurd h hb
    · omega
theorem opt_ext {α : Type} {a b : Option α} (h : ∀ x, a = some x ↔ b = some x) : a = b := by
  cases a with
  | none =>
    cases b with
    | none => rfl
    | some y => exact absurd ((h y).2 rfl) (by simp)
  | some x => exact ((h x).1 rfl).symm
theorem get_put {es : List Pr} (ho : Asc es) (p : Pr) (key : ByteArray) : getE (putL es p) key = if p.key = key then some p else getE es key := by
  refine opt_ext fun q => ?_
  rw [getE_iff (putL_asc ho p)]
  constructor
  · rintro ⟨i, hi, hk⟩
    rcases putL_some ho p hi with ⟨rfl, _⟩ | ⟨hn, j, hj, _⟩
    · rw [if_pos hk]
    · rw [if_neg (fun e => hn (hk.trans e.symm))]
      exact (getE_iff ho).2 ⟨j, hj, hk⟩
  · intro h
    split at h
    · rename_i hk
      injection h with h
      subst h
      exact ⟨_, putL_self ho p, hk⟩
    · rename_i hk
      obtain ⟨i, hi, hqk⟩ := (getE_iff ho).1 h
      obtain ⟨j, hj⟩ := putL_old ho p hi (fun e => hk (e.symm.trans hqk))
      exact ⟨j, hj, hqk⟩
theorem putL_mem {es : List Pr} (ho : Asc es) (p : Pr) {q : Pr} (h : q ∈ putL es p) : q = p ∨ q ∈ es := by
  obtain ⟨i, hi⟩ := List.getElem?_of_mem h
  rcases putL_some ho p hi with ⟨h, _⟩ | ⟨_, j, hj, _⟩
  · exact .inl h
  · exact .inr (List.mem_of_getElem? hj)
theorem lowN_mono {es : List Pr} {a b : ByteArray} (h : a = b ∨ kLt a b = true) : lowN es a ≤ lowN es b := by
  rcases h with rfl | h
  · exact Nat.le_refl _
  · unfold lowN
    refine List.countP_mono_left fun x _ hx => kLt_trans hx h

/-! cells -/
theorem flat_take {α : Type} {f : α → List Value} {k : Nat} (hf : ∀ x, (f x).length = k) : ∀ (l : List α) (n : Nat), (l.flatMap f).take (n * k) = (l.take n).flatMap f
  | [], n => by simp
  | x :: l, 0 => by simp
  | x :: l, n + 1 => by
    rw [List.flatMap_cons, List.take_succ_cons, List.flatMap_cons, ← flat_take hf l n, Nat.succ_mul, Nat.add_comm, List.take_append, List.take_of_length_le (by rw [hf]; omega), hf]
    congr 2
    omega
theorem flat_drop {α : Type} {f : α → List Value} {k : Nat} (hf : ∀ x, (f x).length = k) : ∀ (l : List α) (n : Nat), (l.flatMap f).drop (n * k) = (l.drop n).flatMap f
  | [], n => by simp
  | x :: l, 0 => by simp
  | x :: l, n + 1 => by
    rw [List.flatMap_cons, List.drop_succ_cons, ← flat_drop hf l n, Nat.succ_mul, Nat.add_comm, List.drop_append, List.drop_of_length_le (by rw [hf]; omega), hf, List.nil_append]
    congr 1
    omega
theorem cells_ins (es : List Pr) (lo : Nat) (p : Pr) : (es.flatMap Pr.cells).take (lo * 3) ++ p.cells ++ (es.flatMap Pr.cells).drop (lo * 3) = (insL es lo p).flatMap Pr.cells := by
  unfold insL
  rw [flat_take (f := Pr.cells) (k := 3) (fun _ => rfl), flat_drop (f := Pr.cells) (k := 3) (fun _ => rfl), List.flatMap_append, List.flatMap_cons, List.append_assoc]
theorem cells_set : ∀ (es : List Pr) (i : Nat) (p : Pr), i < es.length → (((es.flatMap Pr.cells).set (i * 3) (.string p.key)).set (i * 3 + 1) (.string p.value)).set (i * 3 + 2) (.bool p.gone) = (es.set i p).flatMap Pr.cells
  | [], i, p, h => by simp at h
  | q :: es, 0, p, _ => by simp [Pr.cells]
  | q :: es, i + 1, p, h => by
    have ih := cells_set es i p (by simpa using h)
    rw [List.set_cons_succ, List.flatMap_cons, List.flatMap_cons, ← ih, show (i + 1) * 3 = i * 3 + 3 by omega, show i * 3 + 3 + 1 = i * 3 + 1 + 3 by omega, show i * 3 + 3 + 2 = i * 3 + 2 + 3 by omega]
    rfl
theorem cells_one (es : List Pr) : ∀ v ∈ es.flatMap Pr.cells, v.oneCell' = true := by
  intro v hv
  rw [List.mem_flatMap] at hv
  obtain ⟨p, _, hp⟩ := hv
  simp only [Pr.cells, List.mem_cons, List.not_mem_nil, or_false] at hp
  rcases hp with rfl | rfl | rfl <;> rfl
end Go.Proofs.YtcgfdhgceokcnaaGreatDoor

/- Worlds in which some blocks alone were written, and new ones were made; over any program. -/
namespace Go.Proofs.YtcgfdhgceokcnaaGreatDoor
open Go.RowKit
set_option linter.unusedVariables false

/-- grown, and written in some blocks alone -/
structure Chg (w w' : World) (S : Nat → Prop) : Prop where
  os : w'.os = w.os
  tape : w'.tape = w.tape
  output : w'.output = w.output
  size : w.heap.size ≤ w'.heap.size
  block : ∀ k, k < w.heap.size → ¬ S k → w'.heap[k]? = w.heap[k]?
section
variable {a b c : World} {S T : Nat → Prop}
theorem Ext.chg (h : Ext a b) (S : Nat → Prop) : Chg a b S := ⟨h.os, h.tape, h.output, Below.size h, fun k hk _ => Below.block h k hk⟩
theorem Chg.trans (h : Chg a b S) (k : Chg b c T) (hT : ∀ x, x < a.heap.size → T x → S x) : Chg a c S :=
  ⟨k.os.trans h.os, k.tape.trans h.tape, k.output.trans h.output, Nat.le_trans h.size k.size, fun x hx hS => (k.block x (Nat.lt_of_lt_of_le hx h.size) (fun t => hS (hT x hx t))).trans (h.block x hx hS)⟩
theorem Chg.mono (h : Chg a b S) (hT : ∀ x, x < a.heap.size → S x → T x) : Chg a b T := ⟨h.os, h.tape, h.output, h.size, fun x hx hS => h.block x hx fun s => hS (hT x hx s)⟩
theorem gb_chg {row : Option Nat} (h : a.grownBy b row) : Chg a b (fun k => row = some k) := ⟨h.os, h.tape, h.output, h.size, fun k hk hS => h.block k hk (fun e => hS e.symm)⟩
theorem Chg.ext (h : Chg a b S) (hS : ∀ x, x < a.heap.size → ¬ S x) : Ext a b := ⟨h.os, h.tape, h.output, h.size, fun k hk => h.block k hk (hS k hk)⟩
theorem Bk.chg {g : Nat} {t : TypeId} {cs : Array Value} (h : Bk a g t cs) (k : Chg a b S) (hS : ¬ S g) : Bk b g t cs := (k.block g h.lt hS).trans h
theorem own_chg {base n size : Nat} {e : TypeId} {v : Value} {xs : List Value} (h : a.ownsRow base e size v n xs) (k : Chg a b S) (hS : ∀ g, v.ownBlock = some g → ¬ S g) : b.ownsRow base e size v n xs := by
  refine ⟨h.1, ?_⟩
  rcases h.2 with h2 | ⟨g, cap, cur, hv, hg, hh, r⟩
  · exact .inl h2
  · refine .inr ⟨g, cap, cur, hv, hg, ?_, r⟩
    have hl : g < a.heap.size := (Array.getElem?_eq_some_iff.1 hh).1
    exact (k.block g hl (hS g (by rw [hv]; rfl))).trans hh
theorem own_type {base n size b : Nat} {e t : TypeId} {v : Value} {xs : List Value} {cs : Array Value} (h : a.ownsRow base e size v n xs) (hb : Bk a b t cs) (hne : e ≠ t) : v.ownBlock ≠ some b := by
  rcases h.2 with ⟨rfl, _⟩ | ⟨g, cap, cur, rfl, _, hh, _⟩
  · simp [Value.ownBlock]
  · intro e'
    obtain rfl : g = b := by simpa [Value.ownBlock] using e'
    unfold Bk at hb
    rw [hb] at hh
    simp at hh
    exact hne hh.2.symm
end

theorem bk_ne {w : World} {a b : Nat} {t t' : TypeId} {cs cs' : Array Value} (h : Bk w a t cs) (k : Bk w b t' cs') (hne : t ≠ t') : a ≠ b := by
  rintro rfl
  unfold Bk at h k
  rw [h] at k
  simp at k
  exact hne k.2
theorem own_own {w : World} {b b' n n' k k' : Nat} {e e' : TypeId} {v v' : Value} {xs xs' : List Value} (h : w.ownsRow b e k v n xs) (h' : w.ownsRow b' e' k' v' n' xs') (hne : e ≠ e') {g : Nat} (hg : v.ownBlock = some g) : v'.ownBlock ≠ some g := by
  intro hg'
  rcases h.2 with ⟨rfl, _⟩ | ⟨g1, cap, cur, rfl, _, hh, _⟩
  · simp [Value.ownBlock] at hg
  · rcases h'.2 with ⟨rfl, _⟩ | ⟨g2, cap', cur', rfl, _, hh', _⟩
    · simp [Value.ownBlock] at hg'
    · obtain rfl : g1 = g := by simpa [Value.ownBlock] using hg
      obtain rfl : g2 = g1 := by simpa [Value.ownBlock] using hg'
      rw [hh] at hh'
      simp at hh'
      exact hne hh'.2
/-- what is kept of a row is a row of none -/
theorem own_cut0 {w : World} {base n size g c : Nat} {e : TypeId} {xs : List Value} (h : w.ownsRow base e size (.slice (some ⟨g, 0, none⟩) n c) n xs) : w.ownsRow base e size (.slice (some ⟨g, 0, none⟩) 0 c) 0 [] := by
  rcases h.2 with ⟨h1, _⟩ | ⟨g', cap, cur, h1, h2, h3, h4, h5, h6, h7⟩
  · cases h1
  · injection h1 with a1 a2 a3
    injection a1 with a1
    injection a1 with a1
    subst a1 a3
    exact ⟨by simp, .inr ⟨g, c, cur, rfl, h2, h3, Nat.zero_le _, h5, h6, by simp⟩⟩
end Go.Proofs.YtcgfdhgceokcnaaGreatDoor

/- store.Find: a binary search. -/
namespace Go.Proofs.YtcgfdhgceokcnaaGreatDoor
open Go.RowKit
set_option linter.unusedVariables false
attribute [local go_sem ↓] Go.wp_at_zero Go.wp_at_succ

def cmpI (p : Pr) (key : ByteArray) : Int := if kLt p.key key = true then -1 else if p.key = key then 0 else 1
theorem cmpI_any (p : Pr) (key : ByteArray) (w : World) :
    Calls Tryz.prog 97 #[p.val, .string key] w fun e w' => e = .returned (.int .i64 (cmpI p key)) ∧ Ext w w' := by
  have HC : Hid (Lib.compareBytes p.key.data.toList key.data.toList = cmpI p key) := kCmp p.key key
  obtain ⟨pk, pv, pg⟩ := p
  have B := Bk.at_ w 31 #[.string pk, .string pv, .bool pg] w.heap.size rfl
  have c0 := B.cell 0
  have e0 : Ext w (w.alloc (.cells #[.string pk, .string pv, .bool pg] 31)) := (Ext.refl _).alloc _
  simp only [List.getElem?_toArray] at c0
  go_enter Tryz.func97, Tryz.ntmps97
  go_wp2_with fail
  generalize w.alloc (.cells #[.string pk, .string pv, .bool pg] 31) = W1 at *
  refine (Tryz.strings_Compare pk key _).mono ?_
  rw [HC.out]
  rintro _ w1 ⟨rfl, rfl⟩
  go_wp2_with fail
  go_ret
  exact ⟨rfl, e0⟩

set_option maxRecDepth 100000 in
set_option maxHeartbeats 1000000 in
theorem BSearch_any (K : Nat) (hK : ∀ (p : Pr) (key : ByteArray) (w : World), Calls Tryz.prog K #[p.val, .string key] w fun e w' => e = .returned (.int .i64 (cmpI p key)) ∧ Ext w w') (hrun : ∀ (v u : Value) (w : World), (callFunc K #[v, u]).run Tryz.prog w = .ok (.enter K #[v, u]) w)
    (A : Option Addr) (n c : Nat) (es : List Pr) (key : ByteArray) (w : World) (hr : Rd w 3 A n c (es.flatMap Pr.cells)) (hm : c ≤ maxLen) (hn : n ≤ 1099511627776) (ho : Asc es) :
    Calls Tryz.prog 96 #[.slice A n c, .string key, .func (.func K) #[] #[]] w fun e w' => e = .returned (.tuple #[.int .i64 (lowN es key : Nat), .bool (hasB es key)]) ∧ Ext w w' := by
  have hl : n ≤ c := hr.2.1
  have hx := hr.lenP
  have HX := Lib.hid hx
  have HK := Lib.hid hK
  have HO := Lib.hid ho
  have HLE := Lib.hid (lowN_le es key)
  have HS := Lib.hid (low_side ho key)
  obtain ⟨lo, HLO⟩ : ∃ x, Hid (lowN es key = x) := ⟨_, rfl⟩
  obtain ⟨hb, HHB⟩ : ∃ x, Hid (hasB es key = x) := ⟨_, rfl⟩
  rw [HLO.out] at HLE HS
  rw [HLO.out, HHB.out]
  have hlo : lo ≤ n := by rw [← hx]; exact HLE.out
  clear hK ho hx
  unfold maxLen at hm
  go_enter Tryz.func96, Tryz.ntmps96
  go_wp2_with fail
  go_loopw [9, 10, 11] (fun x y _ wr => ∃ i j : Nat, x = .int .i64 i ∧ y = .int .i64 j ∧ i ≤ lo ∧ lo ≤ j ∧ j ≤ n ∧ Ext w wr) (fun x y _ _ => (intOf y).toNat - (intOf x).toNat)
  case atStart => exact ⟨0, n, rfl, rfl, by omega, hlo, by omega, Ext.refl _⟩
  case round =>
    obtain ⟨i, j, rfl, rfl, hi, hj, hjn, hbw⟩ := hrel
    by_cases hlt : i < j
    · have hmn : (i + j) / 2 < n := by omega
      have k1 : ((i : Int) + (j : Int)) / 2 = (((i + j) / 2 : Nat) : Int) := by omega
      obtain ⟨md, hmd⟩ : ∃ m, (i + j) / 2 = m := ⟨_, rfl⟩
      have hi2 : i ≤ md := by omega
      have hj2 : md < j := by omega
      rw [hmd] at k1 hmn
      clear hmd
      have hgj := List.getElem?_eq_getElem (l := es) (i := md) (by rw [HX.out]; exact hmn)
      obtain ⟨ad, rfl, hb, y0, y1, y2⟩ := (hr.ext hbw).getP hgj
      have hside : (md < lo → kLt (es[md]'(by rw [HX.out]; exact hmn)).key key = true) ∧ (lo ≤ md → kLt (es[md]'(by rw [HX.out]; exact hmn)).key key = false) := ⟨fun h => HS.out.1 md _ h hgj, fun h => HS.out.2 md _ h hgj⟩
      generalize es[md]'(by rw [HX.out]; exact hmn) = p at *
      have HP := Lib.hid hside
      obtain ⟨cm, HCM⟩ : ∃ x, Hid (cmpI p key = x) := ⟨_, rfl⟩
      have hc := HK.out p key
      rw [HCM.out] at hc
      have HCC := Lib.hid hc
      obtain ⟨pk, pv, pg⟩ := p
      simp only at y0 y1 y2
      clear hc hside hgj
      go_wp2_with fail
      refine (HCC.out _).mono ?_
      rintro _ w1 ⟨rfl, hb1⟩
      by_cases hml : md < lo
      · have h1 := HP.out.1 hml
        have hcm : cm < 0 := by rw [← HCM.out]; unfold cmpI; rw [if_pos h1]; decide
        clear h1
        go_wp2_with fail
        go_roundw
        case rel => exact ⟨md + 1, j, by go_num, rfl, by omega, hj, hjn, hbw.trans hb1⟩
        case measure => simp [intOf]; omega
      · have h1 := HP.out.2 (by omega)
        have hcm : ¬ cm < 0 := by rw [← HCM.out]; unfold cmpI; rw [if_neg (by rw [h1]; decide)]; split <;> decide
        clear h1
        go_wp2_with fail
        go_roundw
        case rel => exact ⟨i, md, rfl, rfl, hi, by omega, by omega, hbw.trans hb1⟩
        case measure => simp [intOf]; omega
    · obtain rfl : i = j := by omega
      obtain rfl : i = lo := by omega
      clear hi hj hlt
      by_cases hin : i < n
      · have hgj := List.getElem?_eq_getElem (l := es) (i := i) (by rw [HX.out]; exact hin)
        obtain ⟨ad, rfl, hb', y0, y1, y2⟩ := (hr.ext hbw).getP hgj
        have hfin : hasB es key = decide ((es[i]'(by rw [HX.out]; exact hin)).key = key) := by unfold hasB; rw [HLO.out, hgj]
        have hside := HS.out.2 i _ (Nat.le_refl _) hgj
        generalize es[i]'(by rw [HX.out]; exact hin) = p at *
        have HF := Lib.hid hfin
        obtain ⟨cm, HCM⟩ : ∃ x, Hid (cmpI p key = x) := ⟨_, rfl⟩
        have hc := HK.out p key
        rw [HCM.out] at hc
        have HCC := Lib.hid hc
        have HSD := Lib.hid hside
        obtain ⟨pk, pv, pg⟩ := p
        simp only at y0 y1 y2
        clear hc hside hgj hfin
        go_wp2_with fail
        refine (HCC.out _).mono ?_
        rintro _ w1 ⟨rfl, hb1⟩
        have hz : (cm == 0) = hb := by
          rw [← HHB.out, HF.out, ← HCM.out]
          unfold cmpI
          rw [if_neg (by rw [HSD.out]; decide)]
          show _ = decide (pk = key)
          by_cases h : pk = key
          · rw [if_pos h]; simp [h]
          · rw [if_neg h]; simp [h]
        go_wp2_with fail
        refine bodyPost_ret (by simp [results, Tryz.results96, go_sem]; try rfl) rfl ?_
        exact ⟨rfl, hbw.trans hb1⟩
      · have hfin : hb = false := by
          rw [← HHB.out]
          unfold hasB
          rw [HLO.out, List.getElem?_eq_none (by rw [HX.out]; omega)]
        subst hfin
        go_wp2_with fail
        refine bodyPost_ret (by simp [results, Tryz.results96, go_sem]; try rfl) rfl ?_
        exact ⟨rfl, hbw⟩

theorem Find_any (A : Option Addr) (n c : Nat) (es : List Pr) (key : ByteArray) (w : World) (hr : Rd w 3 A n c (es.flatMap Pr.cells)) (hm : c ≤ maxLen) (hn : n ≤ 1099511627776) (ho : Asc es) :
    Calls Tryz.prog 66 #[.slice A n c, .string key] w fun e w' => e = .returned (.tuple #[.int .i64 (lowN es key : Nat), .bool (hasB es key)]) ∧ Ext w w' := by
  have HO := Lib.hid ho
  clear ho
  go_enter Tryz.func66, Tryz.ntmps66
  go_wp2_with fail
  refine (BSearch_any 97 cmpI_any (fun v u w => by kernel_rfl) A n c es key _ hr hm hn HO.out).mono ?_
  rintro _ w1 ⟨rfl, hb1⟩
  go_wp2_with fail
  refine bodyPost_ret (by simp [results, Tryz.results66, go_sem]; try rfl) rfl ?_
  exact ⟨rfl, hb1⟩
end Go.Proofs.YtcgfdhgceokcnaaGreatDoor
