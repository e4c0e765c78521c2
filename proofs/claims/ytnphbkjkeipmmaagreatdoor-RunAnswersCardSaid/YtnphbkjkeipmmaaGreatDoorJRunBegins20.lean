/- A session, plain: a desk (a log, and a mirror that follows it), its lines. -/
import Derived.Test.YtnphbkjkeipmmaaGreatDoorJRunBegins18
import Derived.Test.YtnphbkjkeipmmaaGreatDoorJRunBegins19
import Derived.Test.YtnphbkjkeipmmaaGreatDoorJRunBegins4
import Derived.Test.YtnphbkjkeipmmaaGreatDoorJRunBegins15
import Derived.Test.YtnphbkjkeipmmaaGreatDoorJRunBegins11
namespace Go.Proofs.YtnphbkjkeipmmaaGreatDoor
open Go.RowKit
set_option linter.unusedVariables false

structure Dk where
  es : List Ent
  m : Mi
/-- a text cut at its first blank -/
def wordV (s : ByteArray) : ByteArray × ByteArray × Bool := (⟨(Lib.cut s.data.toList [32]).1.toArray⟩, ⟨(Lib.cut s.data.toList [32]).2.1.toArray⟩, (Lib.cut s.data.toList [32]).2.2)
def okT : ByteArray := ⟨#[111, 107]⟩
def badT : ByteArray := ⟨#[98, 97, 100]⟩
def noT : ByteArray := ⟨#[]⟩
def nlT : ByteArray := ⟨#[10]⟩
def spT : ByteArray := ⟨#[32]⟩
def wAdd : ByteArray := ⟨#[97, 100, 100]⟩
def wAsk : ByteArray := ⟨#[97, 115, 107]⟩
def wKey : ByteArray := ⟨#[107, 101, 121]⟩
def wWant : ByteArray := ⟨#[119, 97, 110, 116]⟩
def wStep : ByteArray := ⟨#[115, 116, 101, 112]⟩
def wState : ByteArray := ⟨#[115, 116, 97, 116, 101]⟩
/-- the name of a fault -/
def nameT (k : Int) : ByteArray :=
  if k = 1 then ⟨#[69, 114, 114, 82, 97, 110, 103, 101]⟩
  else if k = 2 then ⟨#[69, 114, 114, 83, 121, 110, 116, 97, 120]⟩
  else if k = 3 then ⟨#[69, 114, 114, 83, 104, 97, 112, 101]⟩
  else if k = 4 then ⟨#[69, 114, 114, 70, 117, 108, 108]⟩
  else if k = 5 then ⟨#[69, 114, 114, 78, 111, 110, 101]⟩
  else if k = 6 then ⟨#[69, 114, 114, 83, 116, 97, 116, 101]⟩
  else if k = 7 then ⟨#[69, 114, 114, 67, 108, 97, 115, 104]⟩
  else if k = 8 then ⟨#[69, 114, 114, 80, 114, 111, 111, 102]⟩
  else if k = 9 then ⟨#[69, 114, 114, 83, 105, 103, 110]⟩
  else ⟨#[69, 114, 114, 110, 111]⟩
/-- what comes of a line: a text, and perhaps a fault (none: 'unread') -/
abbrev Out := ByteArray × Option Int
def addD (d : Dk) (s : ByteArray) : Dk × Out :=
  match numR (wordV s).1 4 with
  | none => (d, noT, none)
  | some n => if (wordV s).2.2 = false then (d, noT, none)
    else if ¬ (⟨n, (wordV s).2.1⟩ : Ent).ok then (d, noT, some (⟨n, (wordV s).2.1⟩ : Ent).err)
    else if 200 ≤ d.es.length then (d, noT, some 4)
    else ({ d with es := d.es ++ [⟨n, (wordV s).2.1⟩] }, okT, some 0)
/-- the log's reply to what is wanted, and the fault -/
def replyD (es : List Ent) (w : Wt) : Rp × Int :=
  if w.what = 1 then (⟨1, shH es 7 0, [], []⟩, shK es 7 0)
  else if w.what = 2 then (⟨2, hd00, (es.take w.to_.toNat).drop w.fr.toNat, []⟩, 0)
  else (⟨w.what, hd00, [], gmV (es.map Ent.leaf) w.fr w.to_⟩, gmK (es.map Ent.leaf) w.fr w.to_)
def spoilH (h : Hd) : Hd := ⟨h.size, if h.root - 1 < 0 then 1 else h.root - 1, h.time, h.sign⟩
def spoilE (es : List Ent) : List Ent := es.map fun e => ⟨0, e.data⟩
def spoilP (p : List Int) : List Int := 0 :: p.drop 1
def spoilR (r : Rp) : Rp :=
  if r.what = 1 then ⟨r.what, spoilH r.head, r.ents, r.proof⟩
  else if r.what = 2 then ⟨r.what, r.head, spoilE r.ents, r.proof⟩
  else ⟨r.what, r.head, r.ents, spoilP r.proof⟩
def sentR (d : Dk) (bad : Bool) : Rp := if bad then spoilR (replyD d.es d.m.want).1 else (replyD d.es d.m.want).1
def stepD (d : Dk) (bad : Bool) : Dk × Out :=
  if (replyD d.es d.m.want).2 ≠ 0 then (d, noT, some (replyD d.es d.m.want).2)
  else ({ d with m := (d.m.hear (sentR d bad)).1 }, okT, some (d.m.hear (sentR d bad)).2)
def wantT (w : Wt) : ByteArray := digB w.what.toNat ++ spT ++ digB w.fr.toNat ++ spT ++ digB w.to_.toNat
def stateT (m : Mi) : ByteArray := digB m.own.length ++ spT ++ hexT (rootE m.own).toNat
def aloneD (d : Dk) (s : ByteArray) : Dk × Out :=
  if s = wWant then (d, wantT d.m.want, some 0)
  else if s = wStep then stepD d false
  else if s = badT then stepD d true
  else if s = wState then (d, stateT d.m, some 0)
  else (d, noT, none)
def lineD (d : Dk) (s : ByteArray) : Dk × Out :=
  if (wordV s).2.2 = false then aloneD d s
  else if (wordV s).1 = wAdd then addD d (wordV s).2.1
  else if (wordV s).1 = wAsk then (d, (ansR d.es 7 0 (wordV s).2.1).1, some (ansR d.es 7 0 (wordV s).2.1).2)
  else if (wordV s).1 = wKey then (d, bitsR (wordV s).2.1, some (keyK (wordV s).2.1))
  else (d, noT, none)
/-- what is written for what came -/
def outT (o : Out) : ByteArray := match o.2 with
  | none => badT
  | some k => if k = 0 then o.1 else nameT k
def ansD (d : Dk) (s : ByteArray) : ByteArray := outT (lineD d s).2
def nextD (d : Dk) (s : ByteArray) : Dk := (lineD d s).1
/-- the lines of a text, without their ends -/
def linesL (l : List UInt8) : List (List UInt8) := if l = [] then [] else if (partsL 10 l).getLast? = some [] then (partsL 10 l).dropLast else partsL 10 l
def baS (l : List UInt8) : ByteArray := ⟨l.toArray⟩
/-- what is answered, and the desk behind it -/
def playD : Dk → ByteArray → List (List UInt8) → Dk × ByteArray
  | d, out, [] => (d, out)
  | d, out, l :: ls => playD (nextD d (baS l)) (out ++ ansD d (baS l) ++ nlT) ls
def dk0 : Dk := ⟨[], Mi.new 7⟩
def longT : ByteArray := ⟨#[116, 111, 111, 32, 108, 111, 110, 103, 10]⟩
def runT (t : ByteArray) : ByteArray := if 3000 < t.size then longT else (playD dk0 noT (linesL t.data.toList)).2

/-! ### lines -/
theorem linesL_nil : linesL [] = [] := if_pos rfl
theorem linesL_one {d : List UInt8} (h : ∀ b ∈ d, b ≠ 10) (hd : d ≠ []) : linesL d = [d] := by
  unfold linesL
  rw [if_neg hd, partsL_one 10 d h, if_neg (by simpa using hd)]
theorem linesL_cons {d t : List UInt8} (h : ∀ b ∈ d, b ≠ 10) : linesL (d ++ 10 :: t) = d :: linesL t := by
  unfold linesL
  rw [if_neg (by simp), partsL_app 10 d t h]
  by_cases ht : t = []
  · subst ht
    rw [if_pos rfl, show partsL 10 [] = [[]] from rfl]
    rfl
  · rw [if_neg ht]
    obtain ⟨p, r, hp⟩ : ∃ p r, partsL 10 t = p :: r := by
      cases h : partsL 10 t with
      | nil => exact absurd h (partsL_ne 10 t)
      | cons p r => exact ⟨p, r, rfl⟩
    rw [hp]
    have e : (d :: p :: r).getLast? = (p :: r).getLast? := rfl
    rw [e]
    split
    · rfl
    · rfl
theorem linesL_app (d t : List UInt8) : linesL (d ++ 10 :: t) = linesL (d ++ [10]) ++ linesL t := by
  induction hn : d.length using Nat.strongRecOn generalizing d with
  | ind n ih =>
    rcases cut_ways 10 d with h | ⟨a, b, rfl, ha⟩
    · rw [linesL_cons h, linesL_cons h, linesL_nil]; rfl
    · rw [List.append_assoc, List.append_assoc, List.cons_append, List.cons_append, linesL_cons ha, linesL_cons ha, ih b.length (by rw [← hn]; simp; omega) b rfl]
      rfl
theorem linesL_len (t : List UInt8) : (linesL t).length ≤ t.length := by
  induction hn : t.length using Nat.strongRecOn generalizing t with
  | ind n ih =>
    rcases cut_ways 10 t with h | ⟨a, b, rfl, ha⟩
    · by_cases ht : t = []
      · subst ht; simp [linesL_nil]
      · rw [linesL_one h ht]
        have : t.length ≠ 0 := by simpa using ht
        simp; omega
    · rw [linesL_cons ha, List.length_cons]
      have := ih b.length (by rw [← hn]; simp; omega) b rfl
      simp at hn
      omega
theorem linesL_mem {t : List UInt8} : ∀ l ∈ linesL t, l.length ≤ t.length := by
  induction hn : t.length using Nat.strongRecOn generalizing t with
  | ind n ih =>
    rcases cut_ways 10 t with h | ⟨a, b, rfl, ha⟩
    · by_cases ht : t = []
      · subst ht; simp [linesL_nil]
      · rw [linesL_one h ht]
        intro l hl
        simp at hl
        subst hl
        omega
    · rw [linesL_cons ha]
      intro l hl
      simp at hn
      rcases List.mem_cons.1 hl with rfl | hl
      · omega
      · have := ih b.length (by omega) rfl l hl
        omega
theorem noT_app (x : ByteArray) : noT ++ x = x := by apply ba_ext; show (⟨#[]⟩ ++ x : ByteArray).data.toList = _; simp
theorem app_noT (x : ByteArray) : x ++ noT = x := by apply ba_ext; show (x ++ ⟨#[]⟩ : ByteArray).data.toList = _; simp
theorem playD_app : ∀ (a b : List (List UInt8)) (d : Dk) (out : ByteArray), playD d out (a ++ b) = playD (playD d out a).1 (playD d out a).2 b
  | [], b, d, out => rfl
  | l :: a, b, d, out => by
    show playD _ _ (a ++ b) = _
    rw [playD_app a b]
    rfl
theorem playD_out : ∀ (a : List (List UInt8)) (d : Dk) (out : ByteArray), ∃ x, (playD d out a).2 = out ++ x
  | [], d, out => ⟨noT, (app_noT out).symm⟩
  | l :: a, d, out => by
    obtain ⟨x, hx⟩ := playD_out a (nextD d (baS l)) (out ++ ansD d (baS l) ++ nlT)
    refine ⟨ansD d (baS l) ++ nlT ++ x, ?_⟩
    show (playD _ _ a).2 = _
    rw [hx]
    simp only [ByteArray.append_assoc]

/-! ### what is always so -/
structure Dk.Good (d : Dk) : Prop where
  es : entsOk d.es
  m : d.m.Good
  key : d.m.key = 7
  next : d.m.next.size ≤ d.es.length
  full : d.m.own.length = 0 → d.m.next.size ≠ 0 → d.m.have_ < d.m.next.size
theorem dk0_good : dk0.Good := ⟨⟨Nat.zero_le _, fun e he => by cases he⟩, Mi.Good.new 7, rfl, Int.le_refl _, fun _ h => absurd rfl h⟩
theorem hear_key (m : Mi) (r : Rp) : (m.hear r).1.key = m.key := by
  have h1 : ∀ m : Mi, (m.settle).1.key = m.key := fun m => by unfold Mi.settle; split <;> rfl
  have h2 : ∀ h, (m.hearH h).1.key = m.key := fun h => by unfold Mi.hearH; repeat' (split <;> try rfl)
  have h3 : ∀ l, (m.hearE l).1.key = m.key := fun l => by
    unfold Mi.hearE
    split
    · rfl
    · split
      · rfl
      · split
        · rw [h1]
        · rfl
  have h4 : ∀ p, (m.hearP p).1.key = m.key := fun p => by
    unfold Mi.hearP
    split
    · rfl
    · rw [h1]
  unfold Mi.hear
  split
  · rfl
  · split
    · rfl
    · split
      · exact h2 _
      · split
        · exact h3 _
        · exact h4 _
theorem settle_next (m : Mi) : (m.settle).1.next = hd00 := by unfold Mi.settle; split <;> rfl
/-- a mirror that stays as it was, forgets, or takes the head that came -/
theorem hear_next {m : Mi} (hg : m.Good) {r : Rp} {N : Nat} (h0 : m.next.size ≤ N) (hf : m.own.length = 0 → m.next.size ≠ 0 → m.have_ < m.next.size) (h1 : r.what = 1 → r.head.size ≤ N) :
    (m.hear r).1.next.size ≤ N ∧ ((m.hear r).1.own.length = 0 → (m.hear r).1.next.size ≠ 0 → (m.hear r).1.have_ < (m.hear r).1.next.size) := by
  have hN : (0 : Int) ≤ N := by omega
  have fgt : ∀ m' : Mi, m'.next = hd00 → m'.next.size ≤ N ∧ (m'.own.length = 0 → m'.next.size ≠ 0 → m'.have_ < m'.next.size) := fun m' e => by rw [e]; exact ⟨hN, fun _ h => absurd rfl h⟩
  unfold Mi.hear
  split
  · exact ⟨h0, hf⟩
  · split
    · exact ⟨h0, hf⟩
    · rename_i hw
      have hw' : r.what = m.want.what := Decidable.not_not.1 hw
      split
      · rename_i e1
        have hn : m.next.size = 0 := by
          rcases m.want_what with ⟨_, e⟩ | e | e
          · exact e
          · omega
          · omega
        unfold Mi.hearH
        split
        · exact ⟨h0, hf⟩
        · split
          · exact ⟨h0, hf⟩
          · split
            · rename_i hs
              refine ⟨h1 e1, fun ho _ => ?_⟩
              have hwt := hg.none hn
              show (m.own.length : Int) + (m.waits.length : Int) < r.head.size
              have ho' : m.own.length = 0 := ho
              rw [hwt]
              simp only [List.length_nil]
              omega
            · split
              · exact ⟨h0, hf⟩
              · exact ⟨h0, hf⟩
      · split
        · rename_i e2
          have hn : m.next.size ≠ 0 := fun e => by
            have : m.want.what = 1 := by unfold Mi.want; rw [if_pos e]
            omega
          unfold Mi.hearE
          have ww : m.want = ⟨2, m.have_, min m.next.size (m.have_ + 16)⟩ := by
            unfold Mi.want
            rw [if_neg hn, if_neg]
            intro e
            have : m.want.what = 3 := by unfold Mi.want; rw [if_neg hn, if_pos e]
            omega
          rw [ww]
          simp only
          split
          · exact fgt _ rfl
          · rename_i hl
            split
            · exact fgt _ rfl
            · split
              · exact fgt _ (settle_next _)
              · rename_i hx
                refine ⟨h0, fun ho _ => ?_⟩
                have ho' : m.own.length = 0 := ho
                show (m.own.length : Int) + ((m.waits ++ r.ents).length : Int) < m.next.size
                have hx' : ((m.waits ++ r.ents).length : Int) ≠ m.next.size := fun e => hx ⟨ho', e⟩
                have hh : m.have_ = (m.own.length : Int) + (m.waits.length : Int) := rfl
                rw [List.length_append] at hx' ⊢
                omega
        · unfold Mi.hearP
          split
          · exact fgt _ rfl
          · exact fgt _ (settle_next _)
theorem sent_what (d : Dk) (bad : Bool) : (sentR d bad).what = (replyD d.es d.m.want).1.what := by
  unfold sentR
  split
  · unfold spoilR
    split
    · rfl
    · split <;> rfl
  · rfl
theorem reply_what (es : List Ent) (w : Wt) : (replyD es w).1.what = w.what := by
  unfold replyD
  split
  · rename_i h; exact h.symm
  · split
    · rename_i h; exact h.symm
    · rfl
theorem reply_ok {d : Dk} (h : d.Good) : (replyD d.es d.m.want).2 = 0 := by
  unfold replyD
  split
  · unfold shK
    rw [entsErr_ok h.es, if_neg (by decide)]
    exact (lg_ok h.es.1 (vld_ofL (leafs_of_ents h.es).2 (by have := (leafs_of_ents h.es).1; omega)) ⟨Int.le_refl _, by decide⟩ (by decide)).1
  · split
    · rfl
    · rename_i h1 h2
      have h3 : d.m.want.what = 3 := by
        rcases d.m.want_what with ⟨e, _⟩ | e | e
        · exact absurd e h1
        · exact absurd e h2
        · exact e
      have hn : d.m.next.size ≠ 0 := fun e => by
        have : d.m.want.what = 1 := by unfold Mi.want; rw [if_pos e]
        omega
      have hf : d.m.have_ = d.m.next.size := by
        have h4 := h3
        unfold Mi.want at h4
        rw [if_neg hn] at h4
        split at h4
        · assumption
        · cases h4
      have ww : d.m.want = ⟨3, (d.m.own.length : Int), d.m.next.size⟩ := by unfold Mi.want; rw [if_neg hn, if_pos hf]
      rw [ww]
      have hlo : ¬ d.m.own.length = 0 := fun e => by have := h.full e hn; omega
      have hr := h.m.room hn
      refine gmK_ok (leafs_of_ents h.es) ⟨?_, ?_, ?_⟩
      · show (1 : Int) ≤ (d.m.own.length : Int); omega
      · show (d.m.own.length : Int) ≤ d.m.next.size; omega
      · rw [List.length_map]; exact h.next
theorem sent_head {d : Dk} (h : d.Good) (bad : Bool) (hw : (sentR d bad).what = 1) : (sentR d bad).head.size ≤ d.es.length := by
  rw [sent_what, reply_what] at hw
  have hk := reply_ok h
  have e : (replyD d.es d.m.want) = (⟨1, shH d.es 7 0, [], []⟩, shK d.es 7 0) := by unfold replyD; rw [if_pos hw]
  rw [e] at hk
  obtain ⟨_, hs, _, _⟩ := sh_parts hk
  unfold sentR
  rw [e]
  cases bad
  · show (shH d.es 7 0).size ≤ _
    rw [hs]
    exact Int.le_refl _
  · show (spoilR ⟨1, shH d.es 7 0, [], []⟩).head.size ≤ _
    unfold spoilR
    rw [if_pos rfl]
    show (shH d.es 7 0).size ≤ _
    rw [hs]
    exact Int.le_refl _
theorem stepD_ok {d : Dk} (h : d.Good) (bad : Bool) : stepD d bad = ({ d with m := (d.m.hear (sentR d bad)).1 }, okT, some (d.m.hear (sentR d bad)).2) := by
  unfold stepD
  rw [if_neg (not_not_intro (reply_ok h))]
theorem stepD_good {d : Dk} (h : d.Good) (bad : Bool) : (stepD d bad).1.Good := by
  rw [stepD_ok h]
  obtain ⟨h1, h2⟩ := hear_next (N := d.es.length) h.m h.next h.full (sent_head h bad)
  exact ⟨h.es, h.m.hear _, (hear_key _ _).trans h.key, h1, h2⟩
theorem addD_good {d : Dk} (h : d.Good) (s : ByteArray) : (addD d s).1.Good := by
  unfold addD
  split
  · exact h
  · split
    · exact h
    · split
      · exact h
      · rename_i ho
        split
        · exact h
        · rename_i hl
          refine ⟨⟨?_, fun e he => ?_⟩, h.m, h.key, ?_, h.full⟩
          · show (d.es ++ [_]).length ≤ 200
            rw [List.length_append]; simp; omega
          · rcases List.mem_append.1 he with he | he
            · exact h.es.2 e he
            · simp at he
              subst he
              exact Decidable.not_not.1 ho
          · have := h.next
            show d.m.next.size ≤ (((d.es ++ [_]).length : Nat) : Int)
            rw [List.length_append]
            omega
theorem lineD_good {d : Dk} (h : d.Good) (s : ByteArray) : (lineD d s).1.Good := by
  unfold lineD
  split
  · unfold aloneD
    split
    · exact h
    · split
      · exact stepD_good h false
      · split
        · exact stepD_good h true
        · split
          · exact h
          · exact h
  · split
    · exact addD_good h _
    · split
      · exact h
      · split
        · exact h
        · exact h
theorem nextD_good {d : Dk} (h : d.Good) (s : ByteArray) : (nextD d s).Good := lineD_good h s
theorem playD_good : ∀ (ls : List (List UInt8)) {d : Dk} (out : ByteArray), d.Good → (playD d out ls).1.Good
  | [], d, out, h => h
  | l :: ls, d, out, h => playD_good ls _ (nextD_good h _)
/-! ### what is wanted -/
theorem want_three {d : Dk} (h : d.Good) : d.m.want = ⟨1, 0, 0⟩ ∨ (∃ a b : Nat, d.m.want = ⟨2, (a : Int), (b : Int)⟩ ∧ a < b ∧ b ≤ d.es.length) ∨ ∃ o t : Nat, d.m.want = ⟨3, (o : Int), (t : Int)⟩ ∧ 1 ≤ o ∧ o < t ∧ t ≤ d.es.length := by
  by_cases hn : d.m.next.size = 0
  · exact .inl (by unfold Mi.want; rw [if_pos hn])
  · have hr := h.m.room hn
    have hx := h.next
    have hh : d.m.have_ = (d.m.own.length : Int) + (d.m.waits.length : Int) := rfl
    by_cases hf : d.m.have_ = d.m.next.size
    · refine .inr (.inr ⟨d.m.own.length, d.m.next.size.toNat, ?_, ?_, ?_, ?_⟩)
      · unfold Mi.want
        rw [if_neg hn, if_pos hf]
        congr 1
        omega
      · have hlo : ¬ d.m.own.length = 0 := fun e => by have := h.full e hn; omega
        omega
      · omega
      · omega
    · refine .inr (.inl ⟨d.m.have_.toNat, (min d.m.next.size (d.m.have_ + 16)).toNat, ?_, ?_, ?_⟩)
      · unfold Mi.want
        rw [if_neg hn, if_neg hf]
        congr 1 <;> omega
      · omega
      · omega
theorem reply_1 {d : Dk} (h : d.Good) (hw : d.m.want = ⟨1, 0, 0⟩) : replyD d.es d.m.want = (⟨1, shH d.es 7 0, [], []⟩, 0) := by
  have h1 := reply_ok h
  have h2 : (replyD d.es d.m.want).1 = ⟨1, shH d.es 7 0, [], []⟩ := by rw [hw]; unfold replyD; rw [if_pos rfl]
  rw [← h2, ← h1]
theorem reply_2 {d : Dk} (h : d.Good) {a b : Nat} (hw : d.m.want = ⟨2, (a : Int), (b : Int)⟩) : replyD d.es d.m.want = (⟨2, hd00, (d.es.take b).drop a, []⟩, 0) := by
  rw [hw]
  unfold replyD
  rw [if_neg (show ¬ (2 : Int) = 1 by decide), if_pos rfl, Int.toNat_natCast, Int.toNat_natCast]
theorem reply_3 {d : Dk} (h : d.Good) {o t : Nat} (hw : d.m.want = ⟨3, (o : Int), (t : Int)⟩) : replyD d.es d.m.want = (⟨3, hd00, [], gmV (d.es.map Ent.leaf) o t⟩, 0) := by
  have h1 := reply_ok h
  have h2 : (replyD d.es d.m.want).1 = ⟨3, hd00, [], gmV (d.es.map Ent.leaf) o t⟩ := by
    rw [hw]
    unfold replyD
    rw [if_neg (show ¬ (3 : Int) = 1 by decide), if_neg (show ¬ (3 : Int) = 2 by decide)]
  rw [← h2, ← h1]
theorem shK_ok {es : List Ent} (h : entsOk es) : shK es 7 0 = 0 := by
  unfold shK
  rw [entsErr_ok h, if_neg (by decide)]
  exact (lg_ok h.1 (vld_ofL (leafs_of_ents h).2 (by have := (leafs_of_ents h).1; omega)) ⟨Int.le_refl _, by decide⟩ (by decide)).1
end Go.Proofs.YtnphbkjkeipmmaaGreatDoor

/- Worlds in which some blocks alone were written, and new ones were made; over any program. -/
namespace Go.Proofs.YtnphbkjkeipmmaaGreatDoor
open Go.RowKit
set_option linter.unusedVariables false

/-- grown, and written in some blocks alone -/
structure Chg (w w' : World) (S : Nat → Prop) : Prop where
  os : w'.os = w.os
  tape : w'.tape = w.tape
  output : w'.output = w.output
  size : w.heap.size ≤ w'.heap.size
  block : ∀ k, k < w.heap.size → ¬ S k → w'.heap[k]? = w.heap[k]?
section
variable {a b c : World} {S T : Nat → Prop}
theorem Ext.chg (h : Ext a b) (S : Nat → Prop) : Chg a b S := ⟨h.os, h.tape, h.output, Below.size h, fun k hk _ => Below.block h k hk⟩
theorem Chg.trans (h : Chg a b S) (k : Chg b c T) (hT : ∀ x, x < a.heap.size → T x → S x) : Chg a c S :=
  ⟨k.os.trans h.os, k.tape.trans h.tape, k.output.trans h.output, Nat.le_trans h.size k.size, fun x hx hS => (k.block x (Nat.lt_of_lt_of_le hx h.size) (fun t => hS (hT x hx t))).trans (h.block x hx hS)⟩
theorem Chg.mono (h : Chg a b S) (hT : ∀ x, x < a.heap.size → S x → T x) : Chg a b T := ⟨h.os, h.tape, h.output, h.size, fun x hx hS => h.block x hx fun s => hS (hT x hx s)⟩
theorem gb_chg {row : Option Nat} (h : a.grownBy b row) : Chg a b (fun k => row = some k) := ⟨h.os, h.tape, h.output, h.size, fun k hk hS => h.block k hk (fun e => hS e.symm)⟩
theorem Chg.ext (h : Chg a b S) (hS : ∀ x, x < a.heap.size → ¬ S x) : Ext a b := ⟨h.os, h.tape, h.output, h.size, fun k hk => h.block k hk (hS k hk)⟩
theorem Bk.chg {g : Nat} {t : TypeId} {cs : Array Value} (h : Bk a g t cs) (k : Chg a b S) (hS : ¬ S g) : Bk b g t cs := (k.block g h.lt hS).trans h
theorem own_chg {base n size : Nat} {e : TypeId} {v : Value} {xs : List Value} (h : a.ownsRow base e size v n xs) (k : Chg a b S) (hS : ∀ g, v.ownBlock = some g → ¬ S g) : b.ownsRow base e size v n xs := by
  refine ⟨h.1, ?_⟩
  rcases h.2 with h2 | ⟨g, cap, cur, hv, hg, hh, r⟩
  · exact .inl h2
  · refine .inr ⟨g, cap, cur, hv, hg, ?_, r⟩
    have hl : g < a.heap.size := (Array.getElem?_eq_some_iff.1 hh).1
    exact (k.block g hl (hS g (by rw [hv]; rfl))).trans hh
theorem own_type {base n size b : Nat} {e t : TypeId} {v : Value} {xs : List Value} {cs : Array Value} (h : a.ownsRow base e size v n xs) (hb : Bk a b t cs) (hne : e ≠ t) : v.ownBlock ≠ some b := by
  rcases h.2 with ⟨rfl, _⟩ | ⟨g, cap, cur, rfl, _, hh, _⟩
  · simp [Value.ownBlock]
  · intro e'
    obtain rfl : g = b := by simpa [Value.ownBlock] using e'
    unfold Bk at hb
    rw [hb] at hh
    simp at hh
    exact hne hh.2.symm
end

theorem bk_ne {w : World} {a b : Nat} {t t' : TypeId} {cs cs' : Array Value} (h : Bk w a t cs) (k : Bk w b t' cs') (hne : t ≠ t') : a ≠ b := by
  rintro rfl
  unfold Bk at h k
  rw [h] at k
  simp at k
  exact hne k.2
theorem own_own {w : World} {b b' n n' k k' : Nat} {e e' : TypeId} {v v' : Value} {xs xs' : List Value} (h : w.ownsRow b e k v n xs) (h' : w.ownsRow b' e' k' v' n' xs') (hne : e ≠ e') {g : Nat} (hg : v.ownBlock = some g) : v'.ownBlock ≠ some g := by
  intro hg'
  rcases h.2 with ⟨rfl, _⟩ | ⟨g1, cap, cur, rfl, _, hh, _⟩
  · simp [Value.ownBlock] at hg
  · rcases h'.2 with ⟨rfl, _⟩ | ⟨g2, cap', cur', rfl, _, hh', _⟩
    · simp [Value.ownBlock] at hg'
    · obtain rfl : g1 = g := by simpa [Value.ownBlock] using hg
      obtain rfl : g2 = g1 := by simpa [Value.ownBlock] using hg'
      rw [hh] at hh'
      simp at hh'
      exact hne hh'.2
/-- what is kept of a row is a row of none -/
theorem own_cut0 {w : World} {base n size g c : Nat} {e : TypeId} {xs : List Value} (h : w.ownsRow base e size (.slice (some ⟨g, 0, none⟩) n c) n xs) : w.ownsRow base e size (.slice (some ⟨g, 0, none⟩) 0 c) 0 [] := by
  rcases h.2 with ⟨h1, _⟩ | ⟨g', cap, cur, h1, h2, h3, h4, h5, h6, h7⟩
  · cases h1
  · injection h1 with a1 a2 a3
    injection a1 with a1
    injection a1 with a1
    subst a1 a3
    exact ⟨by simp, .inr ⟨g, c, cur, rfl, h2, h3, Nat.zero_le _, h5, h6, by simp⟩⟩
end Go.Proofs.YtnphbkjkeipmmaaGreatDoor

namespace Go.Proofs.YtnphbkjkeipmmaaGreatDoor
open Go.RowKit
set_option linter.unusedVariables false
attribute [local go_sem ↓] Go.wp_at_zero Go.wp_at_succ

def someE (j : Nat) : Ent := ⟨(j : Int), digB j⟩
def someL (n : Nat) : List Ent := (List.range n).map someE
theorem someL_snoc (n : Nat) : someL (n + 1) = someL n ++ [someE n] := by simp [someL, List.range_succ]
theorem someL_len (n : Nat) : (someL n).length = n := by simp [someL]
theorem someL_ok (n : Nat) (h : n ≤ 200) : entsOk (someL n) := by
  refine ⟨by rw [someL_len]; exact h, fun e he => ?_⟩
  unfold someL at he
  rw [List.mem_map] at he
  obtain ⟨j, hj, rfl⟩ := he
  rw [List.mem_range] at hj
  have := digB_size j j (Nat.le_refl _)
  exact ⟨by show (0 : Int) ≤ (j : Int); omega, by show (j : Int) ≤ 1000000; omega, by show (digB j).size ≤ 200; omega⟩

end Go.Proofs.YtnphbkjkeipmmaaGreatDoor
