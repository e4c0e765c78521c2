/- A mirror: plain. -/
import Derived.Test.YtfccbjfiionepaaGreatDoorJTopPieces2
import Derived.Test.YtfccbjfiionepaaGreatDoorJTopPieces15
import Derived.Test.YtfccbjfiionepaaGreatDoorJTopPieces0
namespace Go.Proofs.YtfccbjfiionepaaGreatDoor
set_option linter.unusedVariables false

structure Mi where
  key : Int
  own : List Ent
  head : Hd
  next : Hd
  waits : List Ent
structure Rp where
  what : Int
  head : Hd
  ents : List Ent
  proof : List Int
structure Wt where
  what : Int
  fr : Int
  to_ : Int
def hd00 : Hd := ⟨0, 0, 0, 0⟩
def Mi.new (key : Int) : Mi := ⟨key, [], hd00, hd00, []⟩
def Mi.have_ (m : Mi) : Int := (m.own.length : Int) + (m.waits.length : Int)
def Mi.want (m : Mi) : Wt :=
  if m.next.size = 0 then ⟨1, 0, 0⟩
  else if m.have_ = m.next.size then ⟨3, (m.own.length : Int), m.next.size⟩
  else ⟨2, m.have_, min m.next.size (m.have_ + 16)⟩
/-- the root of entries -/
def rootE (es : List Ent) : Int := if entsErr es = 0 then ofL (es.map Ent.leaf) else sumL []
def Mi.forget (m : Mi) : Mi := { m with next := hd00, waits := [] }
def Mi.settle (m : Mi) : Mi × Int :=
  if rootE (m.own ++ m.waits) ≠ m.next.root then (m.forget, 8)
  else (⟨m.key, m.own ++ m.waits, m.next, hd00, []⟩, 0)
def betB (a b : Hd) : Bool := decide (b.size < a.size) || (decide (a.size = b.size) && decide (b.time < a.time))
def Mi.hearH (m : Mi) (h : Hd) : Mi × Int :=
  if verK h m.key ≠ 0 then (m, verK h m.key)
  else if h.size < m.own.length ∨ (h.size = m.own.length ∧ h.root ≠ rootE m.own) then (m, 3)
  else if (m.own.length : Int) < h.size then ({ m with next := h }, 0)
  else if betB h m.head = true then ({ m with head := h }, 0) else (m, 0)
def Mi.hearE (m : Mi) (l : List Ent) : Mi × Int :=
  if (l.length : Int) < 1 ∨ m.want.to_ - m.want.fr < l.length then (m.forget, 3)
  else if firstErr l ≠ 0 then (m.forget, firstErr l)
  else if m.own.length = 0 ∧ ((m.waits ++ l).length : Int) = m.next.size then ({ m with waits := m.waits ++ l } : Mi).settle
  else ({ m with waits := m.waits ++ l }, 0)
def Mi.hearP (m : Mi) (p : List Int) : Mi × Int :=
  if gcheck (rootE m.own) m.own.length m.next.root m.next.size p ≠ 0 then (m.forget, gcheck (rootE m.own) m.own.length m.next.root m.next.size p)
  else m.settle
def Mi.hear (m : Mi) (r : Rp) : Mi × Int :=
  if r.what = 0 then (m, 0)
  else if r.what ≠ m.want.what then (m, 3)
  else if r.what = 1 then m.hearH r.head
  else if r.what = 2 then m.hearE r.ents
  else m.hearP r.proof
/-- what is always so -/
structure Mi.Good (m : Mi) : Prop where
  own : entsOk m.own
  waits : ∀ e ∈ m.waits, e.ok
  none : m.next.size = 0 → m.waits = []
  room : m.next.size ≠ 0 → m.have_ ≤ m.next.size ∧ (m.own.length : Int) < m.next.size
  next : m.next = hd00 ∨ verK m.next m.key = 0
  head : m.head = hd00 ∨ verK m.head m.key = 0
  size : m.head.size = m.own.length
theorem hd00_ok : hd00.ok = true := by decide
theorem Mi.Good.hok {m : Mi} (h : m.Good) : m.head.ok = true := by
  rcases h.head with e | e
  · rw [e]; exact hd00_ok
  · exact (verK_zero e).2.1
theorem Mi.Good.nok {m : Mi} (h : m.Good) : m.next.ok = true := by
  rcases h.next with e | e
  · rw [e]; exact hd00_ok
  · exact (verK_zero e).2.1
theorem Mi.Good.own_le {m : Mi} (h : m.Good) : m.own.length ≤ 200 := h.own.1
theorem Mi.Good.nsz {m : Mi} (h : m.Good) : 0 ≤ m.next.size ∧ m.next.size ≤ 200 := by
  obtain ⟨a, b, _⟩ := Hd.ok_parts h.nok
  exact ⟨a, b⟩
theorem Mi.Good.have_le {m : Mi} (h : m.Good) : m.own.length + m.waits.length ≤ 200 := by
  by_cases e : m.next.size = 0
  · rw [h.none e]; have := h.own_le; simpa using this
  · have := (h.room e).1
    have := h.nsz
    unfold Mi.have_ at *
    omega
theorem Mi.Good.all {m : Mi} (h : m.Good) : entsOk (m.own ++ m.waits) := ⟨by rw [List.length_append]; exact h.have_le, fun e he => by
  rcases List.mem_append.1 he with he | he
  · exact h.own.2 e he
  · exact h.waits e he⟩
theorem rootE_ok {es : List Ent} (h : entsOk es) : rootE es = ofL (es.map Ent.leaf) := if_pos (entsErr_ok h)
theorem Mi.Good.new (key : Int) : (Mi.new key).Good := ⟨⟨Nat.zero_le _, (fun e he => by cases he)⟩, (fun e he => by cases he), fun _ => rfl, fun h => absurd rfl h, .inl rfl, .inl rfl, rfl⟩
theorem Mi.Good.forget {m : Mi} (h : m.Good) : m.forget.Good := ⟨h.own, (fun e he => by cases he), fun _ => rfl, fun k => absurd rfl k, .inl rfl, h.head, h.size⟩
theorem Mi.Good.settle {m : Mi} (h : m.Good) (hn : m.next.size ≠ 0) (hf : m.have_ = m.next.size) : m.settle.1.Good := by
  unfold Mi.settle
  split
  · exact h.forget
  · refine ⟨h.all, (fun e he => by cases he), fun _ => rfl, fun k => absurd rfl k, .inl rfl, ?_, ?_⟩
    · rcases h.next with e | e
      · rw [e] at hn; exact absurd rfl hn
      · exact .inr e
    · show m.next.size = ((m.own ++ m.waits).length : Int)
      rw [← hf, List.length_append]; unfold Mi.have_; omega
theorem Mi.Good.hearH {m : Mi} (h : m.Good) {hh : Hd} (hn : m.next.size = 0) : (m.hearH hh).1.Good := by
  unfold Mi.hearH
  split
  · exact h
  · rename_i h1
    have hv : verK hh m.key = 0 := Decidable.not_not.1 h1
    split
    · exact h
    · rename_i h2
      split
      · rename_i h3
        exact ⟨h.own, h.waits, fun _ => h.none hn, fun _ => ⟨by show m.have_ ≤ hh.size; unfold Mi.have_; rw [h.none hn]; simp; omega, h3⟩, .inr hv, h.head, h.size⟩
      · rename_i h3
        split
        · exact ⟨h.own, h.waits, h.none, h.room, h.next, .inr hv, by show hh.size = (m.own.length : Int); omega⟩
        · exact h
theorem firstErr_mem {l : List Ent} (h : firstErr l = 0) : ∀ e ∈ l, e.ok := by
  intro e he
  by_cases hk : ∀ e ∈ l, e.ok
  · exact hk e he
  · obtain ⟨j, f, _, _, _, h4⟩ := first_bad hk
    rw [h4] at h
    exact absurd h (Ent.err_ne f)
theorem Mi.Good.hearE {m : Mi} (h : m.Good) {l : List Ent} (hw : m.want.what = 2) : (m.hearE l).1.Good := by
  have hn : m.next.size ≠ 0 := fun e => by unfold Mi.want at hw; rw [if_pos e] at hw; cases hw
  have hf : m.have_ ≠ m.next.size := fun e => by unfold Mi.want at hw; rw [if_neg hn, if_pos e] at hw; cases hw
  have ww : m.want = ⟨2, m.have_, min m.next.size (m.have_ + 16)⟩ := by unfold Mi.want; rw [if_neg hn, if_neg hf]
  unfold Mi.hearE
  rw [ww]
  simp only
  split
  · exact h.forget
  · rename_i h1
    split
    · exact h.forget
    · rename_i h2
      have hl := firstErr_mem (Decidable.not_not.1 h2)
      have hg : ({ m with waits := m.waits ++ l } : Mi).Good := ⟨h.own, fun e he => (List.mem_append.1 he).elim (h.waits e) (hl e), fun k => absurd k hn, fun k => ⟨by
        show (m.own.length : Int) + ((m.waits ++ l).length : Int) ≤ m.next.size
        rw [List.length_append]
        unfold Mi.have_ at h1 hf
        omega, (h.room k).2⟩, h.next, h.head, h.size⟩
      split
      · rename_i h3
        exact hg.settle hn (by show (m.own.length : Int) + ((m.waits ++ l).length : Int) = m.next.size; omega)
      · exact hg
theorem Mi.Good.hearP {m : Mi} (h : m.Good) {p : List Int} (hw : m.want.what = 3) : (m.hearP p).1.Good := by
  have hn : m.next.size ≠ 0 := fun e => by unfold Mi.want at hw; rw [if_pos e] at hw; cases hw
  have hf : m.have_ = m.next.size := by
    unfold Mi.want at hw
    rw [if_neg hn] at hw
    split at hw
    · assumption
    · cases hw
  unfold Mi.hearP
  split
  · exact h.forget
  · exact h.settle hn hf
theorem Mi.want_what (m : Mi) : m.want.what = 1 ∧ m.next.size = 0 ∨ m.want.what = 2 ∨ m.want.what = 3 := by
  unfold Mi.want
  split
  · exact .inl ⟨rfl, by assumption⟩
  · split
    · exact .inr (.inr rfl)
    · exact .inr (.inl rfl)
theorem Mi.Good.hear {m : Mi} (h : m.Good) (r : Rp) : (m.hear r).1.Good := by
  unfold Mi.hear
  split
  · exact h
  · split
    · exact h
    · rename_i h1
      have h1' : r.what = m.want.what := Decidable.not_not.1 h1
      rcases m.want_what with ⟨e, e2⟩ | e | e
      · rw [if_pos (by omega)]; exact h.hearH e2
      · rw [if_neg (by omega), if_pos (by omega)]; exact h.hearE e
      · rw [if_neg (by omega), if_neg (by omega)]; exact h.hearP e
end Go.Proofs.YtfccbjfiionepaaGreatDoor

/- A mirror that hears a log page by page: plain. -/
namespace Go.Proofs.YtfccbjfiionepaaGreatDoor
set_option linter.unusedVariables false

/-- a mirror that heard the entries up to the at-th, with the first o its own -/
def pg (key : Int) (es : List Ent) (o : Nat) (hd h : Hd) (at_ : Nat) : Mi := ⟨key, es.take o, hd, h, (es.take at_).drop o⟩
/-- a mirror that has the first t -/
def st (key : Int) (es : List Ent) (t : Nat) (hd : Hd) : Mi := ⟨key, es.take t, hd, hd00, []⟩
theorem st_new (key : Int) (es : List Ent) : Mi.new key = st key es 0 hd00 := rfl
theorem hearH_more {m : Mi} {h : Hd} (hv : verK h m.key = 0) (hs : (m.own.length : Int) < h.size) : m.hearH h = ({ m with next := h }, 0) := by
  unfold Mi.hearH
  rw [if_neg (not_not_intro hv), if_neg (by omega), if_pos hs]
theorem hear_head {m : Mi} {h : Hd} {es : List Ent} {ps : List Int} (hn : m.next.size = 0) : m.hear ⟨1, h, es, ps⟩ = m.hearH h := by
  have hw : m.want.what = 1 := by unfold Mi.want; rw [if_pos hn]
  unfold Mi.hear
  rw [if_neg (show ¬ (1 : Int) = 0 by decide), if_neg (by rw [hw]; exact not_not_intro rfl), if_pos rfl]
theorem hear_some {m : Mi} {h : Hd} {es : List Ent} {ps : List Int} (hw : m.want.what = 2) : m.hear ⟨2, h, es, ps⟩ = m.hearE es := by
  unfold Mi.hear
  rw [if_neg (show ¬ (2 : Int) = 0 by decide), if_neg (by rw [hw]; exact not_not_intro rfl), if_neg (show ¬ (2 : Int) = 1 by decide), if_pos rfl]
theorem hear_proof {m : Mi} {h : Hd} {es : List Ent} {ps : List Int} (hw : m.want.what = 3) : m.hear ⟨3, h, es, ps⟩ = m.hearP ps := by
  unfold Mi.hear
  rw [if_neg (show ¬ (3 : Int) = 0 by decide), if_neg (by rw [hw]; exact not_not_intro rfl), if_neg (show ¬ (3 : Int) = 1 by decide), if_neg (show ¬ (3 : Int) = 2 by decide)]
theorem st_hear {key : Int} {es : List Ent} {o : Nat} {hd h : Hd} (ho : o ≤ es.length) (hv : verK h key = 0) (hs : (o : Int) < h.size) {l : List Ent} {ps : List Int} :
    (st key es o hd).hear ⟨1, h, l, ps⟩ = (pg key es o hd h o, 0) := by
  rw [hear_head rfl, hearH_more hv (by show ((es.take o).length : Int) < _; rw [List.length_take, Nat.min_eq_left ho]; exact hs)]
  unfold pg st
  have : (es.take o).drop o = [] := List.drop_eq_nil_of_le (by rw [List.length_take]; omega)
  rw [this]
section
variable {key : Int} {es : List Ent} {o t a : Nat} {hd h : Hd}
theorem pg_have (ho : o ≤ a) (ha : a ≤ es.length) : (pg key es o hd h a).have_ = (a : Int) := by
  unfold Mi.have_ pg
  simp only [List.length_drop, List.length_take]
  omega
theorem pg_want (ho : o ≤ a) (ha : a < t) (ht : t ≤ es.length) (hs : h.size = (t : Int)) : (pg key es o hd h a).want = ⟨2, (a : Int), ((min t (a + 16) : Nat) : Int)⟩ := by
  unfold Mi.want
  rw [if_neg (by show ¬ h.size = 0; omega), pg_have ho (by omega), if_neg (by show ¬ (a : Int) = h.size; omega)]
  show Wt.mk 2 (a : Int) (min h.size ((a : Int) + 16)) = _
  rw [hs]
  congr 1
  omega
theorem pg_wantP (ho : o ≤ t) (h0 : 0 < t) (ht : t ≤ es.length) (hs : h.size = (t : Int)) : (pg key es o hd h t).want = ⟨3, (o : Int), (t : Int)⟩ := by
  unfold Mi.want
  rw [if_neg (by show ¬ h.size = 0; omega), pg_have ho (by omega), if_pos (by show (t : Int) = h.size; omega)]
  show Wt.mk 3 (((es.take o).length : Nat) : Int) h.size = _
  rw [hs, List.length_take, Nat.min_eq_left (by omega)]
theorem st_want (hn : True) : (st key es t hd).want = ⟨1, 0, 0⟩ := if_pos rfl
theorem take_drop_cat (ho : o ≤ a) {b : Nat} (hab : a ≤ b) : (es.take a).drop o ++ (es.take b).drop a = (es.take b).drop o := by
  have h1 : es.take a = (es.take b).take a := by rw [List.take_take, Nat.min_eq_left hab]
  rw [h1]
  generalize es.take b = l
  have h2 : l.drop a = (l.drop o).drop (a - o) := by rw [List.drop_drop]; congr 1; omega
  rw [h2, List.drop_take, List.take_append_drop]
theorem pg_all (ho : o ≤ t) : (pg key es o hd h t).own ++ (pg key es o hd h t).waits = es.take t := by
  show es.take o ++ (es.take t).drop o = es.take t
  have h1 : es.take o = (es.take t).take o := by rw [List.take_take, Nat.min_eq_left ho]
  rw [h1, List.take_append_drop]
theorem pg_settle (ho : o ≤ t) (hk : entsOk (es.take t)) (hr : h.root = ofL ((es.take t).map Ent.leaf)) : (pg key es o hd h t).settle = (st key es t h, 0) := by
  unfold Mi.settle
  rw [pg_all ho, rootE_ok hk, if_neg (by show ¬ ofL _ ≠ h.root; rw [hr]; exact not_not_intro rfl)]
  rfl
theorem pg_hear (ho : o ≤ a) (ha : a < t) (ht : t ≤ es.length) (hs : h.size = (t : Int)) (hk : entsOk (es.take t)) (hr : h.root = ofL ((es.take t).map Ent.leaf)) {hh : Hd} {ps : List Int} {b : Nat} (hb : b = min t (a + 16)) :
    (pg key es o hd h a).hear ⟨2, hh, (es.take b).drop a, ps⟩ = (if o = 0 ∧ b = t then st key es t h else pg key es o hd h b, 0) := by
  have hw := pg_want (key := key) (hd := hd) ho ha ht hs
  rw [hear_some (by rw [hw])]
  have hl : ((es.take b).drop a).length = b - a := by rw [List.length_drop, List.length_take]; omega
  have hok : ∀ e ∈ (es.take b).drop a, e.ok := fun e he => hk.2 e (by
    have h1 : es.take b = (es.take t).take b := by rw [List.take_take, Nat.min_eq_left (by omega)]
    rw [h1] at he
    exact List.mem_of_mem_take (List.mem_of_mem_drop he))
  unfold Mi.hearE
  rw [hw, hl, if_neg (by dsimp only; omega), if_neg (not_not_intro (firstErr_ok hok))]
  have hc : (pg key es o hd h a).waits ++ (es.take b).drop a = (es.take b).drop o := take_drop_cat ho (by omega)
  have hp : ({ pg key es o hd h a with waits := (pg key es o hd h a).waits ++ (es.take b).drop a } : Mi) = pg key es o hd h b := by rw [hc]; rfl
  have hlo : (pg key es o hd h a).own.length = o := by show (es.take o).length = o; rw [List.length_take]; omega
  have hlw : ((pg key es o hd h a).waits ++ (es.take b).drop a).length = b - o := by rw [hc, List.length_drop, List.length_take]; omega
  rw [hlo, hlw, hp]
  by_cases h2 : o = 0 ∧ b = t
  · rw [if_pos h2, if_pos ⟨h2.1, by show _ = h.size; rw [hs]; omega⟩]
    obtain ⟨rfl, rfl⟩ := h2
    exact pg_settle (by omega) hk hr
  · rw [if_neg h2, if_neg (fun k => h2 ⟨k.1, by have := k.2; have h3 : (pg key es o hd h a).next.size = (t : Int) := hs; rw [h3] at this; omega⟩)]
theorem pg_hearP (ho : o < t) (ht : t ≤ es.length) (hs : h.size = (t : Int)) (hk : entsOk (es.take t)) (hr : h.root = ofL ((es.take t).map Ent.leaf)) {hh : Hd} {l : List Ent} {ps : List Int}
    (hg : gcheck (ofL ((es.take o).map Ent.leaf)) o (ofL ((es.take t).map Ent.leaf)) t ps = 0) :
    (pg key es o hd h t).hear ⟨3, hh, l, ps⟩ = (st key es t h, 0) := by
  have hw := pg_wantP (key := key) (hd := hd) (h := h) (Nat.le_of_lt ho) (by omega) ht hs
  rw [hear_proof (by rw [hw])]
  have hko : entsOk (es.take o) := ⟨by rw [List.length_take]; have := hk.1; rw [List.length_take] at this; omega, fun e he => hk.2 e (by
    have h1 : es.take o = (es.take t).take o := by rw [List.take_take, Nat.min_eq_left (by omega)]
    rw [h1] at he
    exact List.mem_of_mem_take he)⟩
  have hro : rootE (pg key es o hd h t).own = ofL ((es.take o).map Ent.leaf) := rootE_ok hko
  have hlo : (pg key es o hd h t).own.length = o := by show (es.take o).length = o; rw [List.length_take]; omega
  have hnr : (pg key es o hd h t).next.root = ofL ((es.take t).map Ent.leaf) := hr
  have hns : (pg key es o hd h t).next.size = (t : Int) := hs
  unfold Mi.hearP
  rw [hro, hlo, hnr, hns, if_neg (not_not_intro hg)]
  exact pg_settle (by omega) hk hr
end
end Go.Proofs.YtfccbjfiionepaaGreatDoor

/- Arguments opened: slices of slices, over any program. -/
namespace Go.Proofs.YtfccbjfiionepaaGreatDoor
set_option linter.unusedVariables false
open Go.ChangeShapes Go.WideShapes Go.ChangeAt Go.RowKit Go.Deep Go.Joins

/-- a slice and what it holds -/
structure RowG (τ : Type) where
  A : Option Addr
  n : Nat
  c : Nat
  xs : List τ
instance {τ : Type} : Inhabited (RowG τ) := ⟨⟨none, 0, 0, []⟩⟩
def RowG.cells {τ : Type} (r : RowG τ) : List Value := [.slice r.A r.n r.c]
def RowG.good {τ : Type} (w : World) (C : Nat) (f : τ → List Value) (ok : τ → Prop) (r : RowG τ) : Prop := r.xs.length = r.n ∧ r.c ≤ maxLen ∧ Rd w C r.A r.n r.c (r.xs.flatMap f) ∧ ∀ y ∈ r.xs, ok y
section
variable {H : Type} {enc : TypeId × Value → H} {P : Program} {w : World} {spare : Nat → Bool} {held : Bool}
theorem dec_row {τ : Type} [Inhabited τ] (C : Nat) (hC0 : 0 < C) (f : τ → List Value) (good : τ → Prop) (hlen : ∀ y, (f y).length = C) {t e : TypeId} (ht : P.underlying t = some (.slice e)) (hC : P.cellsOf e = C)
    (dec : ∀ n cs x, DataW.trod enc P w 0 spare held n e cs = some x → ∃ y, cs = f y ∧ good y)
    {fuel : Nat} {cs : List Value} {x : DataW H × List MemPlace} (h : DataW.trod enc P w 0 spare held fuel t cs = some x) :
    ∃ y : RowG τ, cs = y.cells ∧ y.good w C f good := by
  obtain ⟨d, p⟩ := x
  rcases open_slice ht h with ⟨hcs, _⟩ | ⟨a, len, cap, m, n, D, Pl, hcs, _, hl, hm, hmm, _, hi⟩
  · exact ⟨⟨none, 0, 0, []⟩, hcs, rfl, Nat.zero_le _, Rd.nil _ _ _ _, by simp⟩
  · have hlm : len ≤ m := by rw [hmm]; split <;> omega
    have key : ∀ i, i < len → ∃ y : τ, w.cells? 0 (a.add (i * C)) C = some (f y) ∧ good y := fun i hil => by
      obtain ⟨cs', h1, h2⟩ := hi i (by omega)
      obtain ⟨y, rfl, hy⟩ := dec _ _ _ h2
      rw [hC] at h1
      exact ⟨y, h1, hy⟩
    obtain ⟨F, hF⟩ := choose_lt key
    refine ⟨⟨some a, len, cap, (List.range len).map F⟩, hcs, by simp, hm, ⟨?_, hl, fun hn => ?_⟩, ?_⟩
    · rw [flat_len f C hlen]; simp
    · refine ⟨a, rfl, ?_, fun j u hu => ?_⟩
      · have := block_lt_of_cells hC0 (hF 0 hn).1
        rwa [blk_add] at this
      · obtain ⟨i, r, y, hil, hr, rfl, hy, hru⟩ := flat_get f C hlen _ _ _ hu
        simp at hil
        have hyF : y = F i := by
          rw [List.getElem?_map, List.getElem?_range (by omega)] at hy
          simpa using hy.symm
        subst hyF
        obtain ⟨_, _, hat⟩ := World.cells?_some (hF i hil).1
        rw [← add_add', hat r hr, hru]
    · intro y hy
      obtain ⟨i, hi1, rfl⟩ := List.mem_map.1 hy
      exact (hF i (List.mem_range.1 hi1)).2
end
/-- the cells of slices in a row, one each -/
theorem flat_rows {τ : Type} (rs : List (RowG τ)) : rs.flatMap RowG.cells = rs.map fun r => .slice r.A r.n r.c := by
  induction rs with
  | nil => rfl
  | cons r rs ih => rw [List.flatMap_cons, ih]; rfl
end Go.Proofs.YtfccbjfiionepaaGreatDoor

/- Arguments opened: replies. -/
namespace Go.Proofs.YtfccbjfiionepaaGreatDoor
set_option linter.unusedVariables false
open Go.ChangeShapes Go.WideShapes Go.ChangeAt Go.RowKit Go.Deep Go.Joins

/-- a reply and where its slices lie -/
structure RpG where
  what : Int
  head : Hd
  ents : RowG Ent
  proof : RowG Int
instance : Inhabited RpG := ⟨⟨0, default, default, default⟩⟩
def RpG.cells (r : RpG) : List Value := [.int .i64 r.what, .int .i64 r.head.size, .int .i64 r.head.root, .int .i64 r.head.time, .int .i64 r.head.sign, .slice r.ents.A r.ents.n r.ents.c, .slice r.proof.A r.proof.n r.proof.c]
def RpG.good (w : World) (r : RpG) : Prop := r.ents.good w 2 Ent.cells Ent.good ∧ r.proof.good w 1 icells igood
section
variable {H : Type} {enc : TypeId × Value → H} {w : World} {spare : Nat → Bool} {held : Bool}
set_option maxRecDepth 100000 in
theorem dec_reply {n : Nat} {cs : List Value} {x : DataW H × List MemPlace} (h : DataW.trod enc Tryz.prog w 0 spare held n 117 cs = some x) : ∃ y : RpG, cs = y.cells ∧ y.good w := by
  obtain ⟨xs, m, _, _, hlen, hxl, hf⟩ := DataW.trod_struct Tryz.underlying117 h
  have hC : Tryz.prog.cellsOf 117 = 7 := by kernel_rfl
  have hC1 : Tryz.prog.cellsOf 3 = 1 := by kernel_rfl
  have hC2 : Tryz.prog.cellsOf 40 = 4 := by kernel_rfl
  have hC3 : Tryz.prog.cellsOf 22 = 1 := by kernel_rfl
  have hC4 : Tryz.prog.cellsOf 24 = 1 := by kernel_rfl
  rw [hC] at hlen
  have hx4 : xs.length = 4 := hxl
  match cs, hlen, xs, hx4, hf with
  | [c0, c1, c2, c3, c4, c5, c6], _, [x0, x1, x2, x3], _, hf =>
    have t0 : DataW.trod enc Tryz.prog w 0 spare held m 3 (List.take (Tryz.prog.cellsOf 3) (List.drop 0 [c0, c1, c2, c3, c4, c5, c6])) = some x0 := hf 0 _ rfl
    rw [hC1] at t0
    have t1 : DataW.trod enc Tryz.prog w 0 spare held m 40 (List.take (Tryz.prog.cellsOf 40) (List.drop 1 [c0, c1, c2, c3, c4, c5, c6])) = some x1 := hf 1 _ rfl
    rw [hC2] at t1
    have t2 : DataW.trod enc Tryz.prog w 0 spare held m 22 (List.take (Tryz.prog.cellsOf 22) (List.drop 5 [c0, c1, c2, c3, c4, c5, c6])) = some x2 := hf 2 _ rfl
    rw [hC3] at t2
    have t3 : DataW.trod enc Tryz.prog w 0 spare held m 24 (List.take (Tryz.prog.cellsOf 24) (List.drop 6 [c0, c1, c2, c3, c4, c5, c6])) = some x3 := hf 3 _ rfl
    rw [hC4] at t3
    have t0' : DataW.trod enc Tryz.prog w 0 spare held m 3 [c0] = some x0 := t0
    have t1' : DataW.trod enc Tryz.prog w 0 spare held m 40 [c1, c2, c3, c4] = some x1 := t1
    have t2' : DataW.trod enc Tryz.prog w 0 spare held m 22 [c5] = some x2 := t2
    have t3' : DataW.trod enc Tryz.prog w 0 spare held m 24 [c6] = some x3 := t3
    obtain ⟨z, hz, _⟩ := dec_int Tryz.underlying3 t0'
    obtain ⟨y1, hy1, _⟩ := dec_head t1'
    obtain ⟨y2, hy2, g2⟩ := dec_row 2 (by decide) Ent.cells Ent.good (fun _ => rfl) Tryz.underlying22 (by kernel_rfl) (fun _ _ _ hy => dec_ent hy) t2'
    obtain ⟨y3, hy3, g3⟩ := dec_row 1 (by decide) icells igood (fun _ => rfl) Tryz.underlying24 (by kernel_rfl) (fun _ _ _ hy => dec_int Tryz.underlying3 hy) t3'
    refine ⟨⟨z, y1, y2, y3⟩, ?_, g2, g3⟩
    simp [Hd.cells, RowG.cells] at hz hy1 hy2 hy3
    obtain ⟨rfl, rfl, rfl, rfl⟩ := hy1
    subst hz hy2 hy3
    rfl
end
end Go.Proofs.YtfccbjfiionepaaGreatDoor
