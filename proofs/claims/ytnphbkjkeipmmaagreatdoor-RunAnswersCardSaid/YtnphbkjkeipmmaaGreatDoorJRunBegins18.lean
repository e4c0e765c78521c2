/- tile.All, tile.Sums, tile.Where: total; which tiles there are. -/
import Derived.Test.YtnphbkjkeipmmaaGreatDoorJRunBegins17
import Derived.Test.YtnphbkjkeipmmaaGreatDoorJRunBegins14
import Derived.Test.YtnphbkjkeipmmaaGreatDoorJRunBegins13
import Derived.Test.YtnphbkjkeipmmaaGreatDoorJRunBegins16
import Derived.Test.YtnphbkjkeipmmaaGreatDoorJRunBegins12
import Derived.Test.YtnphbkjkeipmmaaGreatDoorJRunBegins2
namespace Go.Proofs.YtnphbkjkeipmmaaGreatDoor
open Go.RowKit
set_option linter.unusedVariables false

def allK (s : Int) : Int := if 0 ≤ s ∧ s ≤ 200 then 0 else 1
def allW (s : Int) : List Tl := if 0 ≤ s ∧ s ≤ 200 then allT s.toNat 4 else []
theorem allW_len (s : Int) : (allW s).length ≤ 204 := by
  unfold allW
  split
  · rename_i h
    exact allT_len s.toNat (by omega) 4
  · simp
def tlOk (t : Tl) : Prop := 0 ≤ t.level ∧ t.level ≤ 3 ∧ 0 ≤ t.index ∧ 1 ≤ t.wide ∧ t.wide ≤ 4
instance (t : Tl) : Decidable (tlOk t) := by unfold tlOk; infer_instance
def tlIn (n : Nat) (t : Tl) : Prop := t.index.toNat * 4 + t.wide.toNat ≤ n / 4 ^ t.level.toNat
instance (n : Nat) (t : Tl) : Decidable (tlIn n t) := by unfold tlIn; infer_instance
def tsK (xs : List Int) (t : Tl) : Int := if leafsK xs ≠ 0 then leafsK xs else if ¬ tlOk t then 1 else if tlIn xs.length t then 0 else 5
def tsV (xs : List Int) (t : Tl) : List Int := if tsK xs t = 0 then sumsT xs t.level.toNat t.index.toNat t.wide.toNat else []
theorem leafsK_ne {xs : List Int} (h : ¬ leafsOk xs) : leafsK xs = leafsErr xs := by
  unfold leafsK leafsErr
  by_cases h2 : 200 < xs.length
  · rw [if_pos h2, if_pos h2]
  · rw [if_neg h2, if_neg h2]
    by_cases h3 : allV xs = true
    · exact absurd ⟨by omega, h3⟩ h
    · rw [if_neg h3]
def whOk (k i : Int) : Prop := 0 ≤ k ∧ k ≤ 3 ∧ 0 ≤ i ∧ i ≤ 199
instance (k i : Int) : Decidable (whOk k i) := by unfold whOk; infer_instance
def whK (k i : Int) : Int := if whOk k i then 0 else 1
def whT (k i : Int) : Tl := if whOk k i then ⟨k, i / 4, i % 4 + 1⟩ else ⟨0, 0, 0⟩
def whA (k i : Int) : Int := if whOk k i then i % 4 else 0
/-- does a tile of a list hold another? -/
def holdsT (t u : Tl) : Bool := decide (u.level = t.level ∧ u.index = t.index ∧ t.wide ≤ u.wide)
def hasT (t : Tl) (T : List Tl) : Bool := T.any (holdsT t)
theorem hasT_snoc (t u : Tl) (T : List Tl) : hasT t (T ++ [u]) = (hasT t T || holdsT t u) := by simp [hasT]
theorem allT_has (s : Nat) : ∀ (K k i : Nat), k < K → 4 * i < s / 4 ^ k → tileAt (s / 4 ^ k) k i ∈ allT s K
  | 0, k, i, h, _ => by omega
  | K + 1, k, i, h, h2 => by
    rw [allT, List.mem_append]
    by_cases e : k = K
    · subst e
      refine .inr ?_
      unfold tilesAt
      rw [List.mem_map]
      exact ⟨i, by rw [List.mem_range]; omega, rfl⟩
    · exact .inl (allT_has s K k i (by omega) h2)
theorem hasT_all {t : Tl} {n : Nat} (ht : tlOk t) : hasT t (allT n 4) = true ↔ tlIn n t := by
  obtain ⟨level, index, wide⟩ := t
  obtain ⟨t1, t2, t3, t4, t5⟩ := ht
  simp only at t1 t2 t3 t4 t5
  obtain ⟨k, rfl⟩ := Int.eq_ofNat_of_zero_le t1
  obtain ⟨i, rfl⟩ := Int.eq_ofNat_of_zero_le t3
  obtain ⟨m, rfl⟩ := Int.eq_ofNat_of_zero_le (show 0 ≤ wide by omega)
  unfold hasT tlIn
  rw [List.any_eq_true]
  simp only [Int.toNat_natCast]
  constructor
  · rintro ⟨u, hu, hh⟩
    obtain ⟨k', i', m', h1, rfl, h2, h3, h4⟩ := allT_mem n 4 u hu
    obtain ⟨e1, e2, e3⟩ := of_decide_eq_true hh
    simp only at e1 e2 e3
    have f1 : k' = k := by omega
    have f2 : i' = i := by omega
    subst f1; subst f2
    omega
  · intro h
    refine ⟨_, allT_has n 4 k i (by omega) (by omega), decide_eq_true ⟨rfl, rfl, ?_⟩⟩
    show (m : Int) ≤ min 4 (((n / 4 ^ k : Nat) : Int) - (i : Int) * 4)
    generalize n / 4 ^ k = q at *
    omega
theorem holds_in {t u : Tl} {n : Nat} (ht : tlOk t) (hu : u ∈ allT n 4) (h : holdsT t u = true) : tlIn n t :=
  (hasT_all ht).1 (List.any_eq_true.2 ⟨u, hu, h⟩)
end Go.Proofs.YtnphbkjkeipmmaaGreatDoor

/- What a log answers, plain: sums as text; the answer to a text. -/
namespace Go.Proofs.YtnphbkjkeipmmaaGreatDoor
set_option linter.unusedVariables false

/-- texts with a blank between -/
def jnB (l : List ByteArray) : ByteArray := ⟨(Lib.join (l.map (·.data.toList)) [32]).toArray⟩
theorem join_snoc (sep x : List UInt8) : ∀ (l : List (List UInt8)), l ≠ [] → Lib.join (l ++ [x]) sep = Lib.join l sep ++ (sep ++ x)
  | [], h => absurd rfl h
  | [a], _ => by simp [Lib.join, List.intercalate]
  | a :: b :: l, _ => by
    have ih := join_snoc sep x (b :: l) (by simp)
    have e : ∀ (u v : List UInt8) (r : List (List UInt8)), Lib.join (u :: v :: r) sep = u ++ (sep ++ Lib.join (v :: r) sep) := by
      intro u v r; simp [Lib.join, List.intercalate]
    rw [List.cons_append, List.cons_append, e, e]
    rw [List.cons_append] at ih
    rw [ih]
    simp only [List.append_assoc]
theorem jnB_nil : jnB [] = ⟨#[]⟩ := rfl
theorem jnB_one (s : ByteArray) : jnB [s] = s := by
  apply ba_ext
  simp [jnB, Lib.join, List.intercalate]
theorem jnB_snoc (l : List ByteArray) (x : ByteArray) (h : l ≠ []) : jnB (l ++ [x]) = jnB l ++ (⟨#[32]⟩ ++ x) := by
  apply ba_ext
  have := join_snoc [32] x.data.toList (l.map (·.data.toList)) (by simpa using h)
  simp only [jnB, List.map_append, List.map_cons, List.map_nil]
  rw [this]
  simp
theorem join_parts : ∀ (l : List (List UInt8)), l ≠ [] → (∀ p ∈ l, ∀ b ∈ p, b ≠ 32) → partsL 32 (Lib.join l [32]) = l
  | [], h, _ => absurd rfl h
  | [a], _, h => by
    rw [Lib.join_one]
    exact partsL_one 32 a (h a (by simp))
  | a :: b :: l, _, h => by
    have e : Lib.join (a :: b :: l) [32] = a ++ 32 :: Lib.join (b :: l) [32] := by simp [Lib.join, List.intercalate]
    rw [e, partsL_app 32 a _ (h a (by simp)), join_parts (b :: l) (by simp) (fun p hp => h p (by simp [hp]))]
theorem jnB_parts {l : List ByteArray} (h : l ≠ []) (hf : ∀ s ∈ l, freeB 32 s) : partsB 32 (jnB l) = l := by
  unfold partsB jnB
  have e := join_parts (l.map (·.data.toList)) (by simpa using h) (fun p hp b hb => by
    obtain ⟨s, hs, rfl⟩ := List.mem_map.1 hp
    exact hf s hs b hb)
  show (partsL 32 (Lib.join (l.map (·.data.toList)) [32]).toArray.toList).map _ = l
  rw [List.toList_toArray, e, List.map_map]
  conv => rhs; rw [← List.map_id l]
  apply List.map_congr_left
  intro s _
  apply ba_ext
  simp
/-- sums as text -/
def textsV (l : List Int) : ByteArray := if l = [] then ⟨#[45]⟩ else jnB (l.map fun n => hexT n.toNat)
def sumsV (l : List Int) (k : Int) : ByteArray := if k ≠ 0 then ⟨#[]⟩ else textsV l
/-- the sums of a tile, as wide as it is -/
def wholeT (n : Nat) (k i : Nat) : Option Tl := (allT n 4).find? fun t => decide (t.level = (k : Int) ∧ t.index = (i : Int))
def wholeV (xs : List Int) (k i : Nat) : List Int := match wholeT xs.length k i with
  | none => []
  | some t => sumsT xs t.level.toNat t.index.toNat t.wide.toNat
def wholeK (xs : List Int) (k i : Nat) : Int := match wholeT xs.length k i with
  | none => 5
  | some _ => 0
/-- an entry as text -/
def entT (e : Ent) : ByteArray := digB e.time.toNat ++ ⟨#[32]⟩ ++ e.data
/-- the answer to what was read, of a log that is right -/
def ansW (es : List Ent) (h : Hd) (x : ByteArray) (a b : Nat) : ByteArray × Int :=
  let xs := es.map Ent.leaf
  if x = wHead then (headB h, 0)
  else if x = wProof then (sumsV (pmV xs a b) (pmK xs a b), pmK xs a b)
  else if x = wGrow then (sumsV (gmV xs a b) (gmK xs a b), gmK xs a b)
  else if x = wTile then (sumsV (wholeV xs a b) (wholeK xs a b), wholeK xs a b)
  else match es[a]? with
    | none => (⟨#[]⟩, 5)
    | some e => if x = wLeaf then (hexT e.leaf.toNat, 0) else (entT e, 0)
def ansR (es : List Ent) (key now : Int) (s : ByteArray) : ByteArray × Int := match askR s with
  | none => (⟨#[]⟩, 2)
  | some (x, ns) => if shK es key now ≠ 0 then (⟨#[]⟩, shK es key now) else ansW es (shH es key now) x (ns.getD 0 0) (ns.getD 1 0)
end Go.Proofs.YtnphbkjkeipmmaaGreatDoor

/- A mirror: plain. -/
namespace Go.Proofs.YtnphbkjkeipmmaaGreatDoor
set_option linter.unusedVariables false

structure Mi where
  key : Int
  own : List Ent
  head : Hd
  next : Hd
  waits : List Ent
structure Rp where
  what : Int
  head : Hd
  ents : List Ent
  proof : List Int
structure Wt where
  what : Int
  fr : Int
  to_ : Int
def hd00 : Hd := ⟨0, 0, 0, 0⟩
def Mi.new (key : Int) : Mi := ⟨key, [], hd00, hd00, []⟩
def Mi.have_ (m : Mi) : Int := (m.own.length : Int) + (m.waits.length : Int)
def Mi.want (m : Mi) : Wt :=
  if m.next.size = 0 then ⟨1, 0, 0⟩
  else if m.have_ = m.next.size then ⟨3, (m.own.length : Int), m.next.size⟩
  else ⟨2, m.have_, min m.next.size (m.have_ + 16)⟩
/-- the root of entries -/
def rootE (es : List Ent) : Int := if entsErr es = 0 then ofL (es.map Ent.leaf) else sumL []
def Mi.forget (m : Mi) : Mi := { m with next := hd00, waits := [] }
def Mi.settle (m : Mi) : Mi × Int :=
  if rootE (m.own ++ m.waits) ≠ m.next.root then (m.forget, 8)
  else (⟨m.key, m.own ++ m.waits, m.next, hd00, []⟩, 0)
def betB (a b : Hd) : Bool := decide (b.size < a.size) || (decide (a.size = b.size) && decide (b.time < a.time))
def Mi.hearH (m : Mi) (h : Hd) : Mi × Int :=
  if verK h m.key ≠ 0 then (m, verK h m.key)
  else if h.size < m.own.length ∨ (h.size = m.own.length ∧ h.root ≠ rootE m.own) then (m, 3)
  else if (m.own.length : Int) < h.size then ({ m with next := h }, 0)
  else if betB h m.head = true then ({ m with head := h }, 0) else (m, 0)
def Mi.hearE (m : Mi) (l : List Ent) : Mi × Int :=
  if (l.length : Int) < 1 ∨ m.want.to_ - m.want.fr < l.length then (m.forget, 3)
  else if firstErr l ≠ 0 then (m.forget, firstErr l)
  else if m.own.length = 0 ∧ ((m.waits ++ l).length : Int) = m.next.size then ({ m with waits := m.waits ++ l } : Mi).settle
  else ({ m with waits := m.waits ++ l }, 0)
def Mi.hearP (m : Mi) (p : List Int) : Mi × Int :=
  if gcheck (rootE m.own) m.own.length m.next.root m.next.size p ≠ 0 then (m.forget, gcheck (rootE m.own) m.own.length m.next.root m.next.size p)
  else m.settle
def Mi.hear (m : Mi) (r : Rp) : Mi × Int :=
  if r.what = 0 then (m, 0)
  else if r.what ≠ m.want.what then (m, 3)
  else if r.what = 1 then m.hearH r.head
  else if r.what = 2 then m.hearE r.ents
  else m.hearP r.proof
/-- what is always so -/
structure Mi.Good (m : Mi) : Prop where
  own : entsOk m.own
  waits : ∀ e ∈ m.waits, e.ok
  none : m.next.size = 0 → m.waits = []
  room : m.next.size ≠ 0 → m.have_ ≤ m.next.size ∧ (m.own.length : Int) < m.next.size
  next : m.next = hd00 ∨ verK m.next m.key = 0
  head : m.head = hd00 ∨ verK m.head m.key = 0
  size : m.head.size = m.own.length
theorem hd00_ok : hd00.ok = true := by decide
theorem Mi.Good.hok {m : Mi} (h : m.Good) : m.head.ok = true := by
  rcases h.head with e | e
  · rw [e]; exact hd00_ok
  · exact (verK_zero e).2.1
theorem Mi.Good.nok {m : Mi} (h : m.Good) : m.next.ok = true := by
  rcases h.next with e | e
  · rw [e]; exact hd00_ok
  · exact (verK_zero e).2.1
theorem Mi.Good.own_le {m : Mi} (h : m.Good) : m.own.length ≤ 200 := h.own.1
theorem Mi.Good.nsz {m : Mi} (h : m.Good) : 0 ≤ m.next.size ∧ m.next.size ≤ 200 := by
  obtain ⟨a, b, _⟩ := Hd.ok_parts h.nok
  exact ⟨a, b⟩
theorem Mi.Good.have_le {m : Mi} (h : m.Good) : m.own.length + m.waits.length ≤ 200 := by
  by_cases e : m.next.size = 0
  · rw [h.none e]; have := h.own_le; simpa using this
  · have := (h.room e).1
    have := h.nsz
    unfold Mi.have_ at *
    omega
theorem Mi.Good.all {m : Mi} (h : m.Good) : entsOk (m.own ++ m.waits) := ⟨by rw [List.length_append]; exact h.have_le, fun e he => by
  rcases List.mem_append.1 he with he | he
  · exact h.own.2 e he
  · exact h.waits e he⟩
theorem rootE_ok {es : List Ent} (h : entsOk es) : rootE es = ofL (es.map Ent.leaf) := if_pos (entsErr_ok h)
theorem Mi.Good.new (key : Int) : (Mi.new key).Good := ⟨⟨Nat.zero_le _, (fun e he => by cases he)⟩, (fun e he => by cases he), fun _ => rfl, fun h => absurd rfl h, .inl rfl, .inl rfl, rfl⟩
theorem Mi.Good.forget {m : Mi} (h : m.Good) : m.forget.Good := ⟨h.own, (fun e he => by cases he), fun _ => rfl, fun k => absurd rfl k, .inl rfl, h.head, h.size⟩
theorem Mi.Good.settle {m : Mi} (h : m.Good) (hn : m.next.size ≠ 0) (hf : m.have_ = m.next.size) : m.settle.1.Good := by
  unfold Mi.settle
  split
  · exact h.forget
  · refine ⟨h.all, (fun e he => by cases he), fun _ => rfl, fun k => absurd rfl k, .inl rfl, ?_, ?_⟩
    · rcases h.next with e | e
      · rw [e] at hn; exact absurd rfl hn
      · exact .inr e
    · show m.next.size = ((m.own ++ m.waits).length : Int)
      rw [← hf, List.length_append]; unfold Mi.have_; omega
theorem Mi.Good.hearH {m : Mi} (h : m.Good) {hh : Hd} (hn : m.next.size = 0) : (m.hearH hh).1.Good := by
  unfold Mi.hearH
  split
  · exact h
  · rename_i h1
    have hv : verK hh m.key = 0 := Decidable.not_not.1 h1
    split
    · exact h
    · rename_i h2
      split
      · rename_i h3
        exact ⟨h.own, h.waits, fun _ => h.none hn, fun _ => ⟨by show m.have_ ≤ hh.size; unfold Mi.have_; rw [h.none hn]; simp; omega, h3⟩, .inr hv, h.head, h.size⟩
      · rename_i h3
        split
        · exact ⟨h.own, h.waits, h.none, h.room, h.next, .inr hv, by show hh.size = (m.own.length : Int); omega⟩
        · exact h
theorem firstErr_mem {l : List Ent} (h : firstErr l = 0) : ∀ e ∈ l, e.ok := by
  intro e he
  by_cases hk : ∀ e ∈ l, e.ok
  · exact hk e he
  · obtain ⟨j, f, _, _, _, h4⟩ := first_bad hk
    rw [h4] at h
    exact absurd h (Ent.err_ne f)
theorem Mi.Good.hearE {m : Mi} (h : m.Good) {l : List Ent} (hw : m.want.what = 2) : (m.hearE l).1.Good := by
  have hn : m.next.size ≠ 0 := fun e => by unfold Mi.want at hw; rw [if_pos e] at hw; cases hw
  have hf : m.have_ ≠ m.next.size := fun e => by unfold Mi.want at hw; rw [if_neg hn, if_pos e] at hw; cases hw
  have ww : m.want = ⟨2, m.have_, min m.next.size (m.have_ + 16)⟩ := by unfold Mi.want; rw [if_neg hn, if_neg hf]
  unfold Mi.hearE
  rw [ww]
  simp only
  split
  · exact h.forget
  · rename_i h1
    split
    · exact h.forget
    · rename_i h2
      have hl := firstErr_mem (Decidable.not_not.1 h2)
      have hg : ({ m with waits := m.waits ++ l } : Mi).Good := ⟨h.own, fun e he => (List.mem_append.1 he).elim (h.waits e) (hl e), fun k => absurd k hn, fun k => ⟨by
        show (m.own.length : Int) + ((m.waits ++ l).length : Int) ≤ m.next.size
        rw [List.length_append]
        unfold Mi.have_ at h1 hf
        omega, (h.room k).2⟩, h.next, h.head, h.size⟩
      split
      · rename_i h3
        exact hg.settle hn (by show (m.own.length : Int) + ((m.waits ++ l).length : Int) = m.next.size; omega)
      · exact hg
theorem Mi.Good.hearP {m : Mi} (h : m.Good) {p : List Int} (hw : m.want.what = 3) : (m.hearP p).1.Good := by
  have hn : m.next.size ≠ 0 := fun e => by unfold Mi.want at hw; rw [if_pos e] at hw; cases hw
  have hf : m.have_ = m.next.size := by
    unfold Mi.want at hw
    rw [if_neg hn] at hw
    split at hw
    · assumption
    · cases hw
  unfold Mi.hearP
  split
  · exact h.forget
  · exact h.settle hn hf
theorem Mi.want_what (m : Mi) : m.want.what = 1 ∧ m.next.size = 0 ∨ m.want.what = 2 ∨ m.want.what = 3 := by
  unfold Mi.want
  split
  · exact .inl ⟨rfl, by assumption⟩
  · split
    · exact .inr (.inr rfl)
    · exact .inr (.inl rfl)
theorem Mi.Good.hear {m : Mi} (h : m.Good) (r : Rp) : (m.hear r).1.Good := by
  unfold Mi.hear
  split
  · exact h
  · split
    · exact h
    · rename_i h1
      have h1' : r.what = m.want.what := Decidable.not_not.1 h1
      rcases m.want_what with ⟨e, e2⟩ | e | e
      · rw [if_pos (by omega)]; exact h.hearH e2
      · rw [if_neg (by omega), if_pos (by omega)]; exact h.hearE e
      · rw [if_neg (by omega), if_neg (by omega)]; exact h.hearP e
end Go.Proofs.YtnphbkjkeipmmaaGreatDoor

/- A mirror that hears a log page by page: plain. -/
namespace Go.Proofs.YtnphbkjkeipmmaaGreatDoor
set_option linter.unusedVariables false

/-- a mirror that heard the entries up to the at-th, with the first o its own -/
def pg (key : Int) (es : List Ent) (o : Nat) (hd h : Hd) (at_ : Nat) : Mi := ⟨key, es.take o, hd, h, (es.take at_).drop o⟩
/-- a mirror that has the first t -/
def st (key : Int) (es : List Ent) (t : Nat) (hd : Hd) : Mi := ⟨key, es.take t, hd, hd00, []⟩
theorem st_new (key : Int) (es : List Ent) : Mi.new key = st key es 0 hd00 := rfl
theorem hearH_more {m : Mi} {h : Hd} (hv : verK h m.key = 0) (hs : (m.own.length : Int) < h.size) : m.hearH h = ({ m with next := h }, 0) := by
  unfold Mi.hearH
  rw [if_neg (not_not_intro hv), if_neg (by omega), if_pos hs]
theorem hear_head {m : Mi} {h : Hd} {es : List Ent} {ps : List Int} (hn : m.next.size = 0) : m.hear ⟨1, h, es, ps⟩ = m.hearH h := by
  have hw : m.want.what = 1 := by unfold Mi.want; rw [if_pos hn]
  unfold Mi.hear
  rw [if_neg (show ¬ (1 : Int) = 0 by decide), if_neg (by rw [hw]; exact not_not_intro rfl), if_pos rfl]
theorem hear_some {m : Mi} {h : Hd} {es : List Ent} {ps : List Int} (hw : m.want.what = 2) : m.hear ⟨2, h, es, ps⟩ = m.hearE es := by
  unfold Mi.hear
  rw [if_neg (show ¬ (2 : Int) = 0 by decide), if_neg (by rw [hw]; exact not_not_intro rfl), if_neg (show ¬ (2 : Int) = 1 by decide), if_pos rfl]
theorem hear_proof {m : Mi} {h : Hd} {es : List Ent} {ps : List Int} (hw : m.want.what = 3) : m.hear ⟨3, h, es, ps⟩ = m.hearP ps := by
  unfold Mi.hear
  rw [if_neg (show ¬ (3 : Int) = 0 by decide), if_neg (by rw [hw]; exact not_not_intro rfl), if_neg (show ¬ (3 : Int) = 1 by decide), if_neg (show ¬ (3 : Int) = 2 by decide)]
theorem st_hear {key : Int} {es : List Ent} {o : Nat} {hd h : Hd} (ho : o ≤ es.length) (hv : verK h key = 0) (hs : (o : Int) < h.size) {l : List Ent} {ps : List Int} :
    (st key es o hd).hear ⟨1, h, l, ps⟩ = (pg key es o hd h o, 0) := by
  rw [hear_head rfl, hearH_more hv (by show ((es.take o).length : Int) < _; rw [List.length_take, Nat.min_eq_left ho]; exact hs)]
  unfold pg st
  have : (es.take o).drop o = [] := List.drop_eq_nil_of_le (by rw [List.length_take]; omega)
  rw [this]
section
variable {key : Int} {es : List Ent} {o t a : Nat} {hd h : Hd}
theorem pg_have (ho : o ≤ a) (ha : a ≤ es.length) : (pg key es o hd h a).have_ = (a : Int) := by
  unfold Mi.have_ pg
  simp only [List.length_drop, List.length_take]
  omega
theorem pg_want (ho : o ≤ a) (ha : a < t) (ht : t ≤ es.length) (hs : h.size = (t : Int)) : (pg key es o hd h a).want = ⟨2, (a : Int), ((min t (a + 16) : Nat) : Int)⟩ := by
  unfold Mi.want
  rw [if_neg (by show ¬ h.size = 0; omega), pg_have ho (by omega), if_neg (by show ¬ (a : Int) = h.size; omega)]
  show Wt.mk 2 (a : Int) (min h.size ((a : Int) + 16)) = _
  rw [hs]
  congr 1
  omega
theorem pg_wantP (ho : o ≤ t) (h0 : 0 < t) (ht : t ≤ es.length) (hs : h.size = (t : Int)) : (pg key es o hd h t).want = ⟨3, (o : Int), (t : Int)⟩ := by
  unfold Mi.want
  rw [if_neg (by show ¬ h.size = 0; omega), pg_have ho (by omega), if_pos (by show (t : Int) = h.size; omega)]
  show Wt.mk 3 (((es.take o).length : Nat) : Int) h.size = _
  rw [hs, List.length_take, Nat.min_eq_left (by omega)]
theorem st_want (hn : True) : (st key es t hd).want = ⟨1, 0, 0⟩ := if_pos rfl
theorem take_drop_cat (ho : o ≤ a) {b : Nat} (hab : a ≤ b) : (es.take a).drop o ++ (es.take b).drop a = (es.take b).drop o := by
  have h1 : es.take a = (es.take b).take a := by rw [List.take_take, Nat.min_eq_left hab]
  rw [h1]
  generalize es.take b = l
  have h2 : l.drop a = (l.drop o).drop (a - o) := by rw [List.drop_drop]; congr 1; omega
  rw [h2, List.drop_take, List.take_append_drop]
theorem pg_all (ho : o ≤ t) : (pg key es o hd h t).own ++ (pg key es o hd h t).waits = es.take t := by
  show es.take o ++ (es.take t).drop o = es.take t
  have h1 : es.take o = (es.take t).take o := by rw [List.take_take, Nat.min_eq_left ho]
  rw [h1, List.take_append_drop]
theorem pg_settle (ho : o ≤ t) (hk : entsOk (es.take t)) (hr : h.root = ofL ((es.take t).map Ent.leaf)) : (pg key es o hd h t).settle = (st key es t h, 0) := by
  unfold Mi.settle
  rw [pg_all ho, rootE_ok hk, if_neg (by show ¬ ofL _ ≠ h.root; rw [hr]; exact not_not_intro rfl)]
  rfl
theorem pg_hear (ho : o ≤ a) (ha : a < t) (ht : t ≤ es.length) (hs : h.size = (t : Int)) (hk : entsOk (es.take t)) (hr : h.root = ofL ((es.take t).map Ent.leaf)) {hh : Hd} {ps : List Int} {b : Nat} (hb : b = min t (a + 16)) :
    (pg key es o hd h a).hear ⟨2, hh, (es.take b).drop a, ps⟩ = (if o = 0 ∧ b = t then st key es t h else pg key es o hd h b, 0) := by
  have hw := pg_want (key := key) (hd := hd) ho ha ht hs
  rw [hear_some (by rw [hw])]
  have hl : ((es.take b).drop a).length = b - a := by rw [List.length_drop, List.length_take]; omega
  have hok : ∀ e ∈ (es.take b).drop a, e.ok := fun e he => hk.2 e (by
    have h1 : es.take b = (es.take t).take b := by rw [List.take_take, Nat.min_eq_left (by omega)]
    rw [h1] at he
    exact List.mem_of_mem_take (List.mem_of_mem_drop he))
  unfold Mi.hearE
  rw [hw, hl, if_neg (by dsimp only; omega), if_neg (not_not_intro (firstErr_ok hok))]
  have hc : (pg key es o hd h a).waits ++ (es.take b).drop a = (es.take b).drop o := take_drop_cat ho (by omega)
  have hp : ({ pg key es o hd h a with waits := (pg key es o hd h a).waits ++ (es.take b).drop a } : Mi) = pg key es o hd h b := by rw [hc]; rfl
  have hlo : (pg key es o hd h a).own.length = o := by show (es.take o).length = o; rw [List.length_take]; omega
  have hlw : ((pg key es o hd h a).waits ++ (es.take b).drop a).length = b - o := by rw [hc, List.length_drop, List.length_take]; omega
  rw [hlo, hlw, hp]
  by_cases h2 : o = 0 ∧ b = t
  · rw [if_pos h2, if_pos ⟨h2.1, by show _ = h.size; rw [hs]; omega⟩]
    obtain ⟨rfl, rfl⟩ := h2
    exact pg_settle (by omega) hk hr
  · rw [if_neg h2, if_neg (fun k => h2 ⟨k.1, by have := k.2; have h3 : (pg key es o hd h a).next.size = (t : Int) := hs; rw [h3] at this; omega⟩)]
theorem pg_hearP (ho : o < t) (ht : t ≤ es.length) (hs : h.size = (t : Int)) (hk : entsOk (es.take t)) (hr : h.root = ofL ((es.take t).map Ent.leaf)) {hh : Hd} {l : List Ent} {ps : List Int}
    (hg : gcheck (ofL ((es.take o).map Ent.leaf)) o (ofL ((es.take t).map Ent.leaf)) t ps = 0) :
    (pg key es o hd h t).hear ⟨3, hh, l, ps⟩ = (st key es t h, 0) := by
  have hw := pg_wantP (key := key) (hd := hd) (h := h) (Nat.le_of_lt ho) (by omega) ht hs
  rw [hear_proof (by rw [hw])]
  have hko : entsOk (es.take o) := ⟨by rw [List.length_take]; have := hk.1; rw [List.length_take] at this; omega, fun e he => hk.2 e (by
    have h1 : es.take o = (es.take t).take o := by rw [List.take_take, Nat.min_eq_left (by omega)]
    rw [h1] at he
    exact List.mem_of_mem_take he)⟩
  have hro : rootE (pg key es o hd h t).own = ofL ((es.take o).map Ent.leaf) := rootE_ok hko
  have hlo : (pg key es o hd h t).own.length = o := by show (es.take o).length = o; rw [List.length_take]; omega
  have hnr : (pg key es o hd h t).next.root = ofL ((es.take t).map Ent.leaf) := hr
  have hns : (pg key es o hd h t).next.size = (t : Int) := hs
  unfold Mi.hearP
  rw [hro, hlo, hnr, hns, if_neg (not_not_intro hg)]
  exact pg_settle (by omega) hk hr
end
end Go.Proofs.YtnphbkjkeipmmaaGreatDoor
