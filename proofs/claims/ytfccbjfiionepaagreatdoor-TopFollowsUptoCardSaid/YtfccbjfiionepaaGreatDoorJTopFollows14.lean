/- The proof that a log grew is one; plain. -/
import Derived.Test.YtfccbjfiionepaaGreatDoorJTopFollows13
import Derived.Test.YtfccbjfiionepaaGreatDoorJTopFollows10
import Derived.Test.YtfccbjfiionepaaGreatDoorJTopFollows2
namespace Go.Proofs.YtfccbjfiionepaaGreatDoor
set_option linter.unusedVariables false

/-- the proof that a log grew is one -/
theorem gcheck_grow {xs : List Int} {o m : Nat} (h : 1 ≤ o) (h2 : o ≤ m) (hm : m ≤ xs.length) (hk : leafsOk xs) : gcheck (ofL (xs.take o)) o (ofL (xs.take m)) m (growL (xs.take m) o true) = 0 := by
  have hx := hk.1
  have hlm : (xs.take m).length = m := by rw [List.length_take]; omega
  have hvm := allV_take hk.2 m
  have va : vld (ofL (xs.take o)) = true := vld_ofL (allV_take hk.2 o) (by rw [List.length_take]; omega)
  have vb : vld (ofL (xs.take m)) = true := vld_ofL hvm (by omega)
  have hlen := growL_len m (xs.take m) o true (by omega) h (by omega) (by omega)
  have hvp := growL_vld m (xs.take m) o true (by omega) h (by omega) (by omega) hvm
  have hg := groots_grow m (ofL (xs.take o)) (xs.take m) o true (by omega) h (by omega) (by omega) (fun _ => by rw [List.take_take, Nat.min_eq_left h2])
  rw [List.take_take, Nat.min_eq_left h2, hlm] at hg
  rw [hlm] at hlen
  unfold gcheck
  rw [if_neg (by omega), if_neg (by simp [va, vb, hvp]), Int.toNat_natCast, Int.toNat_natCast, if_neg (by omega), if_neg (by simp [hg])]
theorem leafsOk_take {xs : List Int} (hk : leafsOk xs) (n : Nat) : leafsOk (xs.take n) := ⟨by have := hk.1; rw [List.length_take]; omega, allV_take hk.2 n⟩
theorem vld_root {xs : List Int} (hk : leafsOk xs) : vld (ofL xs) = true := vld_ofL hk.2 (by have := hk.1; omega)
/-- the proof that goes with two sizes of a log -/
def goP (xs : List Int) (n m : Nat) : List Int := if 1 ≤ n ∧ n < m then growL (xs.take m) n true else []
end Go.Proofs.YtfccbjfiionepaaGreatDoor

/- Heads of one log go together; plain. -/
namespace Go.Proofs.YtfccbjfiionepaaGreatDoor
set_option linter.unusedVariables false

/-- a head of so many entries, of that root -/
def lgB (n : Nat) (r t : Int) : Hd := ⟨(n : Int), r, t, 0⟩
theorem lg_ok {n : Nat} {r t key : Int} (hn : n ≤ 200) (hr : vld r = true) (ht : 0 ≤ t ∧ t ≤ 1000000) (hkey : keyI key = true) :
    sgnK (lgB n r t) key = 0 ∧ verK (sgnH (lgB n r t) key) key = 0 ∧ (sgnH (lgB n r t) key).size = n ∧ (sgnH (lgB n r t) key).root = r := by
  have hb : (blank (lgB n r t)).ok = true := Hd.ok_of ⟨by show (0 : Int) ≤ (n : Int); omega, by show (n : Int) ≤ 200; omega, ht.1, ht.2, hr, vld_mk ⟨Int.le_refl 0, by show (0 : Int) < 2147483647; decide⟩⟩
  have hs : sgnK (lgB n r t) key = 0 := if_pos (by rw [hkey, hb]; rfl)
  obtain ⟨h1, _, _, h4⟩ := sgn_ver hs
  refine ⟨hs, h1, ?_, ?_⟩
  · rw [h4]; rfl
  · rw [h4]; rfl
theorem chk_older {xs : List Int} (hk : leafsOk xs) {n m : Nat} (h : n ≤ m) (hm : m ≤ xs.length) {t u key : Int} (ht : 0 ≤ t ∧ t ≤ 1000000) (hu : 0 ≤ u ∧ u ≤ 1000000) (hkey : keyI key = true) :
    chk (sgnH (lgB n (ofL (xs.take n)) t) key) (sgnH (lgB m (ofL (xs.take m)) u) key) key (goP xs n m) = (true, 0) ∧ prvB (sgnH (lgB n (ofL (xs.take n)) t) key) (sgnH (lgB m (ofL (xs.take m)) u) key) key = false ∧ bothK (sgnH (lgB n (ofL (xs.take n)) t) key) (sgnH (lgB m (ofL (xs.take m)) u) key) key = 0 := by
  have hx := hk.1
  obtain ⟨a1, a2, a3, a4⟩ := lg_ok (n := n) (t := t) (key := key) (by omega) (vld_root (leafsOk_take hk n)) ht hkey
  obtain ⟨b1, b2, b3, b4⟩ := lg_ok (n := m) (t := u) (key := key) (by omega) (vld_root (leafsOk_take hk m)) hu hkey
  have hb : bothK (sgnH (lgB n (ofL (xs.take n)) t) key) (sgnH (lgB m (ofL (xs.take m)) u) key) key = 0 := by
    unfold bothK; rw [if_neg (not_not_intro a2), b2]
  refine ⟨?_, ?_, hb⟩
  · unfold chk chkX
    rw [hb, if_neg (not_not_intro rfl), a3, b3, if_neg (by omega)]
    by_cases e : n = m
    · subst e
      have hp : goP xs n n = [] := if_neg (by omega)
      rw [if_pos rfl, hp, if_neg (by simp), a4, b4]; simp
    · rw [if_neg (by omega)]
      by_cases e0 : n = 0
      · rw [if_pos ⟨by omega, by omega⟩]
      · rw [if_neg (by omega)]
        have hp : goP xs n m = growL (xs.take m) n true := if_pos ⟨by omega, by omega⟩
        have hg := gcheck_grow (xs := xs) (o := n) (m := m) (by omega) h hm hk
        rw [hp, a4, b4, hg]; rfl
  · unfold prvB splB
    rw [hb, a3, b3, a4, b4]
    by_cases e : n = m
    · subst e; simp
    · have : ¬ ((n : Int) = (m : Int)) := by omega
      simp [this]
theorem gmV_goP {xs : List Int} (hk : leafsOk xs) {n m : Nat} (h : 1 ≤ n) (h2 : n < m) (hm : m ≤ xs.length) : gmK xs n m = 0 ∧ gmV xs n m = goP xs n m := by
  have h0 : gmK xs n m = 0 := gmK_ok hk ⟨by omega, by omega, by omega⟩
  refine ⟨h0, ?_⟩
  unfold gmV goP
  rw [if_pos h0, if_pos ⟨h, h2⟩]
  rfl
/-! ### entries have leafs -/
theorem leafs_of_ents {es : List Ent} (hk : entsOk es) : leafsOk (es.map Ent.leaf) := ⟨by rw [List.length_map]; exact hk.1, by
  unfold allV
  rw [List.all_eq_true]
  intro x hx
  rw [List.mem_map] at hx
  obtain ⟨e, _, rfl⟩ := hx
  exact vld_sum _⟩
/-! ### Find -/
theorem findV_many {l : List Hd} {key : Int} (h : 20 < l.length) : findV l key = (0, 0, 4) := if_pos h
theorem findV_ill {l : List Hd} {key : Int} (h : ¬ 20 < l.length) (h2 : verL key l ≠ 0) : findV l key = (0, 0, verL key l) := by
  unfold findV findX; rw [if_neg h, if_pos h2]
theorem findV_well {l : List Hd} {key : Int} (h : ¬ 20 < l.length) (h2 : verL key l = 0) : findV l key = pairV (fK l l.length 0) := by
  unfold findV findX; rw [if_neg h, if_neg (not_not_intro h2)]
theorem findV_none {l : List Hd} {key : Int} (h : l.length ≤ 20) (h2 : ∀ x ∈ l, verK x key = 0) (h3 : ∀ a ∈ l, ∀ b ∈ l, splB a b = false) : findV l key = (0, 0, 5) := by
  rw [findV_well (by omega) (verL_ok h2), fK_none]
  · rfl
  · intro m _ hm
    refine fI_none fun i _ hi => ?_
    unfold spAt
    cases e1 : l[i]? with
    | none => rfl
    | some a =>
      cases e2 : l[m]? with
      | none => rfl
      | some b => exact h3 a (List.mem_of_getElem? e1) b (List.mem_of_getElem? e2)
theorem findV_two {p q : Hd} {key : Int} (hp : verK p key = 0) (hq : verK q key = 0) (h : splB p q = true) : findV [p, q] key = (0, 1, 0) := by
  rw [findV_well (by simp) (verL_ok (by intro x hx; simp at hx; rcases hx with rfl | rfl <;> assumption))]
  have h0 : fI [p, q] 0 0 0 = none := rfl
  have h1 : fI [p, q] 1 1 0 = some 0 := by
    show (if spAt [p, q] 0 1 = true then some 0 else fI [p, q] 1 0 1) = some 0
    rw [if_pos (by exact h)]
  show pairV (fK [p, q] 2 0) = _
  rw [fK_some (i := 0) (q := 1) (by omega) (by omega) h1 (fun m _ hm => by obtain rfl : m = 0 := by omega
                                                                           exact h0)]
  rfl
/-- the law's search: ahead of row k -/
def FK (l : List Hd) (n k : Nat) (f x y : Int) : Prop := (f = 5 ∧ x = 0 ∧ y = 0 ∧ ∀ m, m < k → fI l m m 0 = none) ∨ (f = 0 ∧ pairV (fK l n 0) = (x, y, 0))
/-- in row k, ahead of i -/
def FI (l : List Hd) (n k i : Nat) (f x y : Int) : Prop := (f = 5 ∧ x = 0 ∧ y = 0 ∧ (∀ m, m < k → fI l m m 0 = none) ∧ ∀ m, m < i → spAt l m k = false) ∨ (f = 0 ∧ pairV (fK l n 0) = (x, y, 0))
theorem FI_hit {l : List Hd} {n k i : Nat} {x y : Int} (h : FI l n k i 5 x y) (hi : i < k) (hk : k < n) (hs : spAt l i k = true) : pairV (fK l n 0) = ((i : Int), (k : Int), 0) := by
  rcases h with ⟨_, _, _, h1, h2⟩ | ⟨h, _⟩
  · rw [fK_some (i := i) (q := k) (by omega) (by omega) (fI_some (by omega) (by omega) hs fun m _ hm => h2 m hm) fun m _ hm => h1 m hm]
    rfl
  · cases h
theorem FI_next {l : List Hd} {n k i : Nat} {x y : Int} (h : FI l n k i 5 x y) (hs : spAt l i k = false) : FI l n k (i + 1) 5 x y := by
  rcases h with ⟨h0, hx, hy, h1, h2⟩ | ⟨h, _⟩
  · exact .inl ⟨h0, hx, hy, h1, fun m hm => by
      by_cases e : m = i
      · subst e; exact hs
      · exact h2 m (by omega)⟩
  · cases h
theorem FK_next {l : List Hd} {n k : Nat} {f x y : Int} (h : FI l n k k f x y) : FK l n (k + 1) f x y := by
  rcases h with ⟨h0, hx, hy, h1, h2⟩ | h
  · exact .inl ⟨h0, hx, hy, fun m hm => by
      by_cases e : m = k
      · subst e; exact fI_none fun i _ hi => h2 i (by omega)
      · exact h1 m (by omega)⟩
  · exact .inr h
theorem FK_end {l : List Hd} {n : Nat} {f x y : Int} (h : FK l n n f x y) : pairV (fK l n 0) = (x, y, f) := by
  rcases h with ⟨rfl, rfl, rfl, h1⟩ | ⟨rfl, h⟩
  · rw [fK_none fun m _ hm => h1 m (by omega)]; rfl
  · exact h
end Go.Proofs.YtfccbjfiionepaaGreatDoor

/- A mirror: plain. -/
namespace Go.Proofs.YtfccbjfiionepaaGreatDoor
set_option linter.unusedVariables false

structure Mi where
  key : Int
  own : List Ent
  head : Hd
  next : Hd
  waits : List Ent
structure Rp where
  what : Int
  head : Hd
  ents : List Ent
  proof : List Int
structure Wt where
  what : Int
  fr : Int
  to_ : Int
def hd00 : Hd := ⟨0, 0, 0, 0⟩
def Mi.new (key : Int) : Mi := ⟨key, [], hd00, hd00, []⟩
def Mi.have_ (m : Mi) : Int := (m.own.length : Int) + (m.waits.length : Int)
def Mi.want (m : Mi) : Wt :=
  if m.next.size = 0 then ⟨1, 0, 0⟩
  else if m.have_ = m.next.size then ⟨3, (m.own.length : Int), m.next.size⟩
  else ⟨2, m.have_, min m.next.size (m.have_ + 16)⟩
/-- the root of entries -/
def rootE (es : List Ent) : Int := if entsErr es = 0 then ofL (es.map Ent.leaf) else sumL []
def Mi.forget (m : Mi) : Mi := { m with next := hd00, waits := [] }
def Mi.settle (m : Mi) : Mi × Int :=
  if rootE (m.own ++ m.waits) ≠ m.next.root then (m.forget, 8)
  else (⟨m.key, m.own ++ m.waits, m.next, hd00, []⟩, 0)
def betB (a b : Hd) : Bool := decide (b.size < a.size) || (decide (a.size = b.size) && decide (b.time < a.time))
def Mi.hearH (m : Mi) (h : Hd) : Mi × Int :=
  if verK h m.key ≠ 0 then (m, verK h m.key)
  else if h.size < m.own.length ∨ (h.size = m.own.length ∧ h.root ≠ rootE m.own) then (m, 3)
  else if (m.own.length : Int) < h.size then ({ m with next := h }, 0)
  else if betB h m.head = true then ({ m with head := h }, 0) else (m, 0)
def Mi.hearE (m : Mi) (l : List Ent) : Mi × Int :=
  if (l.length : Int) < 1 ∨ m.want.to_ - m.want.fr < l.length then (m.forget, 3)
  else if firstErr l ≠ 0 then (m.forget, firstErr l)
  else if m.own.length = 0 ∧ ((m.waits ++ l).length : Int) = m.next.size then ({ m with waits := m.waits ++ l } : Mi).settle
  else ({ m with waits := m.waits ++ l }, 0)
def Mi.hearP (m : Mi) (p : List Int) : Mi × Int :=
  if gcheck (rootE m.own) m.own.length m.next.root m.next.size p ≠ 0 then (m.forget, gcheck (rootE m.own) m.own.length m.next.root m.next.size p)
  else m.settle
def Mi.hear (m : Mi) (r : Rp) : Mi × Int :=
  if r.what = 0 then (m, 0)
  else if r.what ≠ m.want.what then (m, 3)
  else if r.what = 1 then m.hearH r.head
  else if r.what = 2 then m.hearE r.ents
  else m.hearP r.proof
/-- what is always so -/
structure Mi.Good (m : Mi) : Prop where
  own : entsOk m.own
  waits : ∀ e ∈ m.waits, e.ok
  none : m.next.size = 0 → m.waits = []
  room : m.next.size ≠ 0 → m.have_ ≤ m.next.size ∧ (m.own.length : Int) < m.next.size
  next : m.next = hd00 ∨ verK m.next m.key = 0
  head : m.head = hd00 ∨ verK m.head m.key = 0
  size : m.head.size = m.own.length
theorem hd00_ok : hd00.ok = true := by decide
theorem Mi.Good.hok {m : Mi} (h : m.Good) : m.head.ok = true := by
  rcases h.head with e | e
  · rw [e]; exact hd00_ok
  · exact (verK_zero e).2.1
theorem Mi.Good.nok {m : Mi} (h : m.Good) : m.next.ok = true := by
  rcases h.next with e | e
  · rw [e]; exact hd00_ok
  · exact (verK_zero e).2.1
theorem Mi.Good.own_le {m : Mi} (h : m.Good) : m.own.length ≤ 200 := h.own.1
theorem Mi.Good.nsz {m : Mi} (h : m.Good) : 0 ≤ m.next.size ∧ m.next.size ≤ 200 := by
  obtain ⟨a, b, _⟩ := Hd.ok_parts h.nok
  exact ⟨a, b⟩
theorem Mi.Good.have_le {m : Mi} (h : m.Good) : m.own.length + m.waits.length ≤ 200 := by
  by_cases e : m.next.size = 0
  · rw [h.none e]; have := h.own_le; simpa using this
  · have := (h.room e).1
    have := h.nsz
    unfold Mi.have_ at *
    omega
theorem Mi.Good.all {m : Mi} (h : m.Good) : entsOk (m.own ++ m.waits) := ⟨by rw [List.length_append]; exact h.have_le, fun e he => by
  rcases List.mem_append.1 he with he | he
  · exact h.own.2 e he
  · exact h.waits e he⟩
theorem rootE_ok {es : List Ent} (h : entsOk es) : rootE es = ofL (es.map Ent.leaf) := if_pos (entsErr_ok h)
theorem Mi.Good.new (key : Int) : (Mi.new key).Good := ⟨⟨Nat.zero_le _, (fun e he => by cases he)⟩, (fun e he => by cases he), fun _ => rfl, fun h => absurd rfl h, .inl rfl, .inl rfl, rfl⟩
theorem Mi.Good.forget {m : Mi} (h : m.Good) : m.forget.Good := ⟨h.own, (fun e he => by cases he), fun _ => rfl, fun k => absurd rfl k, .inl rfl, h.head, h.size⟩
theorem Mi.Good.settle {m : Mi} (h : m.Good) (hn : m.next.size ≠ 0) (hf : m.have_ = m.next.size) : m.settle.1.Good := by
  unfold Mi.settle
  split
  · exact h.forget
  · refine ⟨h.all, (fun e he => by cases he), fun _ => rfl, fun k => absurd rfl k, .inl rfl, ?_, ?_⟩
    · rcases h.next with e | e
      · rw [e] at hn; exact absurd rfl hn
      · exact .inr e
    · show m.next.size = ((m.own ++ m.waits).length : Int)
      rw [← hf, List.length_append]; unfold Mi.have_; omega
theorem Mi.Good.hearH {m : Mi} (h : m.Good) {hh : Hd} (hn : m.next.size = 0) : (m.hearH hh).1.Good := by
  unfold Mi.hearH
  split
  · exact h
  · rename_i h1
    have hv : verK hh m.key = 0 := Decidable.not_not.1 h1
    split
    · exact h
    · rename_i h2
      split
      · rename_i h3
        exact ⟨h.own, h.waits, fun _ => h.none hn, fun _ => ⟨by show m.have_ ≤ hh.size; unfold Mi.have_; rw [h.none hn]; simp; omega, h3⟩, .inr hv, h.head, h.size⟩
      · rename_i h3
        split
        · exact ⟨h.own, h.waits, h.none, h.room, h.next, .inr hv, by show hh.size = (m.own.length : Int); omega⟩
        · exact h
theorem firstErr_mem {l : List Ent} (h : firstErr l = 0) : ∀ e ∈ l, e.ok := by
  intro e he
  by_cases hk : ∀ e ∈ l, e.ok
  · exact hk e he
  · obtain ⟨j, f, _, _, _, h4⟩ := first_bad hk
    rw [h4] at h
    exact absurd h (Ent.err_ne f)
theorem Mi.Good.hearE {m : Mi} (h : m.Good) {l : List Ent} (hw : m.want.what = 2) : (m.hearE l).1.Good := by
  have hn : m.next.size ≠ 0 := fun e => by unfold Mi.want at hw; rw [if_pos e] at hw; cases hw
  have hf : m.have_ ≠ m.next.size := fun e => by unfold Mi.want at hw; rw [if_neg hn, if_pos e] at hw; cases hw
  have ww : m.want = ⟨2, m.have_, min m.next.size (m.have_ + 16)⟩ := by unfold Mi.want; rw [if_neg hn, if_neg hf]
  unfold Mi.hearE
  rw [ww]
  simp only
  split
  · exact h.forget
  · rename_i h1
    split
    · exact h.forget
    · rename_i h2
      have hl := firstErr_mem (Decidable.not_not.1 h2)
      have hg : ({ m with waits := m.waits ++ l } : Mi).Good := ⟨h.own, fun e he => (List.mem_append.1 he).elim (h.waits e) (hl e), fun k => absurd k hn, fun k => ⟨by
        show (m.own.length : Int) + ((m.waits ++ l).length : Int) ≤ m.next.size
        rw [List.length_append]
        unfold Mi.have_ at h1 hf
        omega, (h.room k).2⟩, h.next, h.head, h.size⟩
      split
      · rename_i h3
        exact hg.settle hn (by show (m.own.length : Int) + ((m.waits ++ l).length : Int) = m.next.size; omega)
      · exact hg
theorem Mi.Good.hearP {m : Mi} (h : m.Good) {p : List Int} (hw : m.want.what = 3) : (m.hearP p).1.Good := by
  have hn : m.next.size ≠ 0 := fun e => by unfold Mi.want at hw; rw [if_pos e] at hw; cases hw
  have hf : m.have_ = m.next.size := by
    unfold Mi.want at hw
    rw [if_neg hn] at hw
    split at hw
    · assumption
    · cases hw
  unfold Mi.hearP
  split
  · exact h.forget
  · exact h.settle hn hf
theorem Mi.want_what (m : Mi) : m.want.what = 1 ∧ m.next.size = 0 ∨ m.want.what = 2 ∨ m.want.what = 3 := by
  unfold Mi.want
  split
  · exact .inl ⟨rfl, by assumption⟩
  · split
    · exact .inr (.inr rfl)
    · exact .inr (.inl rfl)
theorem Mi.Good.hear {m : Mi} (h : m.Good) (r : Rp) : (m.hear r).1.Good := by
  unfold Mi.hear
  split
  · exact h
  · split
    · exact h
    · rename_i h1
      have h1' : r.what = m.want.what := Decidable.not_not.1 h1
      rcases m.want_what with ⟨e, e2⟩ | e | e
      · rw [if_pos (by omega)]; exact h.hearH e2
      · rw [if_neg (by omega), if_pos (by omega)]; exact h.hearE e
      · rw [if_neg (by omega), if_neg (by omega)]; exact h.hearP e
end Go.Proofs.YtfccbjfiionepaaGreatDoor

/- A mirror that hears a log page by page: plain. -/
namespace Go.Proofs.YtfccbjfiionepaaGreatDoor
set_option linter.unusedVariables false

/-- a mirror that heard the entries up to the at-th, with the first o its own -/
def pg (key : Int) (es : List Ent) (o : Nat) (hd h : Hd) (at_ : Nat) : Mi := ⟨key, es.take o, hd, h, (es.take at_).drop o⟩
/-- a mirror that has the first t -/
def st (key : Int) (es : List Ent) (t : Nat) (hd : Hd) : Mi := ⟨key, es.take t, hd, hd00, []⟩
theorem st_new (key : Int) (es : List Ent) : Mi.new key = st key es 0 hd00 := rfl
theorem hearH_more {m : Mi} {h : Hd} (hv : verK h m.key = 0) (hs : (m.own.length : Int) < h.size) : m.hearH h = ({ m with next := h }, 0) := by
  unfold Mi.hearH
  rw [if_neg (not_not_intro hv), if_neg (by omega), if_pos hs]
theorem hear_head {m : Mi} {h : Hd} {es : List Ent} {ps : List Int} (hn : m.next.size = 0) : m.hear ⟨1, h, es, ps⟩ = m.hearH h := by
  have hw : m.want.what = 1 := by unfold Mi.want; rw [if_pos hn]
  unfold Mi.hear
  rw [if_neg (show ¬ (1 : Int) = 0 by decide), if_neg (by rw [hw]; exact not_not_intro rfl), if_pos rfl]
theorem hear_some {m : Mi} {h : Hd} {es : List Ent} {ps : List Int} (hw : m.want.what = 2) : m.hear ⟨2, h, es, ps⟩ = m.hearE es := by
  unfold Mi.hear
  rw [if_neg (show ¬ (2 : Int) = 0 by decide), if_neg (by rw [hw]; exact not_not_intro rfl), if_neg (show ¬ (2 : Int) = 1 by decide), if_pos rfl]
theorem hear_proof {m : Mi} {h : Hd} {es : List Ent} {ps : List Int} (hw : m.want.what = 3) : m.hear ⟨3, h, es, ps⟩ = m.hearP ps := by
  unfold Mi.hear
  rw [if_neg (show ¬ (3 : Int) = 0 by decide), if_neg (by rw [hw]; exact not_not_intro rfl), if_neg (show ¬ (3 : Int) = 1 by decide), if_neg (show ¬ (3 : Int) = 2 by decide)]
theorem st_hear {key : Int} {es : List Ent} {o : Nat} {hd h : Hd} (ho : o ≤ es.length) (hv : verK h key = 0) (hs : (o : Int) < h.size) {l : List Ent} {ps : List Int} :
    (st key es o hd).hear ⟨1, h, l, ps⟩ = (pg key es o hd h o, 0) := by
  rw [hear_head rfl, hearH_more hv (by show ((es.take o).length : Int) < _; rw [List.length_take, Nat.min_eq_left ho]; exact hs)]
  unfold pg st
  have : (es.take o).drop o = [] := List.drop_eq_nil_of_le (by rw [List.length_take]; omega)
  rw [this]
section
variable {key : Int} {es : List Ent} {o t a : Nat} {hd h : Hd}
theorem pg_have (ho : o ≤ a) (ha : a ≤ es.length) : (pg key es o hd h a).have_ = (a : Int) := by
  unfold Mi.have_ pg
  simp only [List.length_drop, List.length_take]
  omega
theorem pg_want (ho : o ≤ a) (ha : a < t) (ht : t ≤ es.length) (hs : h.size = (t : Int)) : (pg key es o hd h a).want = ⟨2, (a : Int), ((min t (a + 16) : Nat) : Int)⟩ := by
  unfold Mi.want
  rw [if_neg (by show ¬ h.size = 0; omega), pg_have ho (by omega), if_neg (by show ¬ (a : Int) = h.size; omega)]
  show Wt.mk 2 (a : Int) (min h.size ((a : Int) + 16)) = _
  rw [hs]
  congr 1
  omega
theorem pg_wantP (ho : o ≤ t) (h0 : 0 < t) (ht : t ≤ es.length) (hs : h.size = (t : Int)) : (pg key es o hd h t).want = ⟨3, (o : Int), (t : Int)⟩ := by
  unfold Mi.want
  rw [if_neg (by show ¬ h.size = 0; omega), pg_have ho (by omega), if_pos (by show (t : Int) = h.size; omega)]
  show Wt.mk 3 (((es.take o).length : Nat) : Int) h.size = _
  rw [hs, List.length_take, Nat.min_eq_left (by omega)]
theorem st_want (hn : True) : (st key es t hd).want = ⟨1, 0, 0⟩ := if_pos rfl
theorem take_drop_cat (ho : o ≤ a) {b : Nat} (hab : a ≤ b) : (es.take a).drop o ++ (es.take b).drop a = (es.take b).drop o := by
  have h1 : es.take a = (es.take b).take a := by rw [List.take_take, Nat.min_eq_left hab]
  rw [h1]
  generalize es.take b = l
  have h2 : l.drop a = (l.drop o).drop (a - o) := by rw [List.drop_drop]; congr 1; omega
  rw [h2, List.drop_take, List.take_append_drop]
theorem pg_all (ho : o ≤ t) : (pg key es o hd h t).own ++ (pg key es o hd h t).waits = es.take t := by
  show es.take o ++ (es.take t).drop o = es.take t
  have h1 : es.take o = (es.take t).take o := by rw [List.take_take, Nat.min_eq_left ho]
  rw [h1, List.take_append_drop]
theorem pg_settle (ho : o ≤ t) (hk : entsOk (es.take t)) (hr : h.root = ofL ((es.take t).map Ent.leaf)) : (pg key es o hd h t).settle = (st key es t h, 0) := by
  unfold Mi.settle
  rw [pg_all ho, rootE_ok hk, if_neg (by show ¬ ofL _ ≠ h.root; rw [hr]; exact not_not_intro rfl)]
  rfl
theorem pg_hear (ho : o ≤ a) (ha : a < t) (ht : t ≤ es.length) (hs : h.size = (t : Int)) (hk : entsOk (es.take t)) (hr : h.root = ofL ((es.take t).map Ent.leaf)) {hh : Hd} {ps : List Int} {b : Nat} (hb : b = min t (a + 16)) :
    (pg key es o hd h a).hear ⟨2, hh, (es.take b).drop a, ps⟩ = (if o = 0 ∧ b = t then st key es t h else pg key es o hd h b, 0) := by
  have hw := pg_want (key := key) (hd := hd) ho ha ht hs
  rw [hear_some (by rw [hw])]
  have hl : ((es.take b).drop a).length = b - a := by rw [List.length_drop, List.length_take]; omega
  have hok : ∀ e ∈ (es.take b).drop a, e.ok := fun e he => hk.2 e (by
    have h1 : es.take b = (es.take t).take b := by rw [List.take_take, Nat.min_eq_left (by omega)]
    rw [h1] at he
    exact List.mem_of_mem_take (List.mem_of_mem_drop he))
  unfold Mi.hearE
  rw [hw, hl, if_neg (by dsimp only; omega), if_neg (not_not_intro (firstErr_ok hok))]
  have hc : (pg key es o hd h a).waits ++ (es.take b).drop a = (es.take b).drop o := take_drop_cat ho (by omega)
  have hp : ({ pg key es o hd h a with waits := (pg key es o hd h a).waits ++ (es.take b).drop a } : Mi) = pg key es o hd h b := by rw [hc]; rfl
  have hlo : (pg key es o hd h a).own.length = o := by show (es.take o).length = o; rw [List.length_take]; omega
  have hlw : ((pg key es o hd h a).waits ++ (es.take b).drop a).length = b - o := by rw [hc, List.length_drop, List.length_take]; omega
  rw [hlo, hlw, hp]
  by_cases h2 : o = 0 ∧ b = t
  · rw [if_pos h2, if_pos ⟨h2.1, by show _ = h.size; rw [hs]; omega⟩]
    obtain ⟨rfl, rfl⟩ := h2
    exact pg_settle (by omega) hk hr
  · rw [if_neg h2, if_neg (fun k => h2 ⟨k.1, by have := k.2; have h3 : (pg key es o hd h a).next.size = (t : Int) := hs; rw [h3] at this; omega⟩)]
theorem pg_hearP (ho : o < t) (ht : t ≤ es.length) (hs : h.size = (t : Int)) (hk : entsOk (es.take t)) (hr : h.root = ofL ((es.take t).map Ent.leaf)) {hh : Hd} {l : List Ent} {ps : List Int}
    (hg : gcheck (ofL ((es.take o).map Ent.leaf)) o (ofL ((es.take t).map Ent.leaf)) t ps = 0) :
    (pg key es o hd h t).hear ⟨3, hh, l, ps⟩ = (st key es t h, 0) := by
  have hw := pg_wantP (key := key) (hd := hd) (h := h) (Nat.le_of_lt ho) (by omega) ht hs
  rw [hear_proof (by rw [hw])]
  have hko : entsOk (es.take o) := ⟨by rw [List.length_take]; have := hk.1; rw [List.length_take] at this; omega, fun e he => hk.2 e (by
    have h1 : es.take o = (es.take t).take o := by rw [List.take_take, Nat.min_eq_left (by omega)]
    rw [h1] at he
    exact List.mem_of_mem_take he)⟩
  have hro : rootE (pg key es o hd h t).own = ofL ((es.take o).map Ent.leaf) := rootE_ok hko
  have hlo : (pg key es o hd h t).own.length = o := by show (es.take o).length = o; rw [List.length_take]; omega
  have hnr : (pg key es o hd h t).next.root = ofL ((es.take t).map Ent.leaf) := hr
  have hns : (pg key es o hd h t).next.size = (t : Int) := hs
  unfold Mi.hearP
  rw [hro, hlo, hnr, hns, if_neg (not_not_intro hg)]
  exact pg_settle (by omega) hk hr
end
end Go.Proofs.YtfccbjfiionepaaGreatDoor
