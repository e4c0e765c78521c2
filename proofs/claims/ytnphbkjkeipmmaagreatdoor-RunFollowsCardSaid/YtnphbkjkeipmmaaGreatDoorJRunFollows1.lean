/- A session that follows a log, plain. -/
import Derived.Test.YtnphbkjkeipmmaaGreatDoorJRunBegins25
import Derived.Test.YtnphbkjkeipmmaaGreatDoorJRunBegins16
import Derived.Test.YtnphbkjkeipmmaaGreatDoorJRunFollows0
import Derived.Test.YtnphbkjkeipmmaaGreatDoorJRunBegins28
import Derived.Test.YtnphbkjkeipmmaaGreatDoorJRunBegins11
import Derived.BigQuiet
namespace Go.Proofs.YtnphbkjkeipmmaaGreatDoor
open Go.RowKit
set_option linter.unusedVariables false

/-- a text so many times -/
def repS : Nat → ByteArray → ByteArray
  | 0, _ => noT
  | k + 1, s => repS k s ++ s
theorem repS_size : ∀ (k : Nat) (s : ByteArray), (repS k s).size = k * s.size
  | 0, s => by rw [Nat.zero_mul]; rfl
  | k + 1, s => by
    show (repS k s ++ s).size = _
    rw [ByteArray.size_append, repS_size k s, Nat.succ_mul]
theorem repS_list : ∀ (k : Nat) (s : ByteArray), (repS k s).data.toList = (List.replicate k s.data.toList).flatten
  | 0, s => rfl
  | k + 1, s => by
    show (repS k s ++ s).data.toList = _
    rw [show (repS k s ++ s).data.toList = (repS k s).data.toList ++ s.data.toList by simp, repS_list k s, List.replicate_succ', List.flatten_append]
    simp
theorem lines_rep {l : List UInt8} (h : ∀ b ∈ l, b ≠ 10) (r : List UInt8) : ∀ k, linesL ((List.replicate k (l ++ [10])).flatten ++ r) = List.replicate k l ++ linesL r
  | 0 => rfl
  | k + 1 => by
    rw [List.replicate_succ, List.flatten_cons, List.append_assoc, List.append_assoc]
    show linesL (l ++ 10 :: ((List.replicate k (l ++ [10])).flatten ++ r)) = _
    rw [linesL_cons h, lines_rep h r k]
    rfl
/-! ### so many entries -/
theorem adds_play {l : List UInt8} {e : Ent} (hl : ∀ d : Dk, d.es.length < 200 → lineD d (baS l) = ({ d with es := d.es ++ [e] }, okT, some 0)) :
    ∀ (k : Nat) (d : Dk) (out : ByteArray) (ls : List (List UInt8)), d.es.length + k ≤ 200 → playD d out (List.replicate k l ++ ls) = playD { d with es := d.es ++ List.replicate k e } (out ++ repS k (okT ++ nlT)) ls
  | 0, d, out, ls, _ => by
    show playD d out ls = _
    rw [show repS 0 (okT ++ nlT) = noT from rfl, app_noT]
    simp
  | k + 1, d, out, ls, h => by
    show playD (nextD d (baS l)) (out ++ ansD d (baS l) ++ nlT) (List.replicate k l ++ ls) = _
    have h1 : nextD d (baS l) = { d with es := d.es ++ [e] } := by unfold nextD; rw [hl d (by omega)]
    have h2 : ansD d (baS l) = okT := by unfold ansD; rw [hl d (by omega)]; rfl
    rw [h1, h2, adds_play hl k _ _ ls (by show (d.es ++ [e]).length + k ≤ 200; rw [List.length_append]; simp; omega)]
    have e1 : ∀ k, out ++ okT ++ nlT ++ repS k (okT ++ nlT) = out ++ repS (k + 1) (okT ++ nlT) := fun k => by
      apply ba_ext
      show (out ++ okT ++ nlT ++ repS k (okT ++ nlT)).data.toList = (out ++ (repS k (okT ++ nlT) ++ (okT ++ nlT))).data.toList
      have e2 : ∀ a b : ByteArray, (a ++ b).data.toList = a.data.toList ++ b.data.toList := fun a b => by simp
      have e3 : ∀ k, (okT ++ nlT).data.toList ++ (repS k (okT ++ nlT)).data.toList = (repS k (okT ++ nlT)).data.toList ++ (okT ++ nlT).data.toList := fun k => by
        rw [repS_list]
        have h1 : ∀ k, (okT ++ nlT).data.toList ++ (List.replicate k (okT ++ nlT).data.toList).flatten = (List.replicate (k + 1) (okT ++ nlT).data.toList).flatten := fun k => by rw [List.replicate_succ, List.flatten_cons]
        rw [h1, List.replicate_succ', List.flatten_append]
        simp
      have e4 := e3 k
      rw [e2 okT nlT] at e4
      rw [e2, e2, e2, e2, e2, e2, ← e4]
      simp [List.append_assoc]
    rw [e1 k]
    simp [List.append_assoc, List.replicate_succ]
/-! ### so many steps -/
def stepL : List UInt8 := [115, 116, 101, 112]
theorem lineD_step (d : Dk) : lineD d (baS stepL) = stepD d false := by
  unfold lineD
  rw [word_one (by decide)]
  simp only
  rw [if_pos trivial]
  unfold aloneD
  rw [if_neg (by decide), if_pos (by decide)]
/-- steps that all go well -/
inductive Goes : Nat → Dk → Dk → Prop
  | zero (d : Dk) : Goes 0 d d
  | more {k : Nat} {d d' d'' : Dk} : stepD d false = (d', okT, some 0) → Goes k d' d'' → Goes (k + 1) d d''
theorem Goes.cat {a b : Nat} {d d' d'' : Dk} (h : Goes a d d') (k : Goes b d' d'') : Goes (a + b) d d'' := by
  induction h with
  | zero d => rw [Nat.zero_add]; exact k
  | more h1 h2 ih => rw [Nat.succ_add]; exact .more h1 (ih k)
theorem Goes.one {d d' : Dk} (h : stepD d false = (d', okT, some 0)) : Goes 1 d d' := .more h (.zero _)
theorem goes_play {k : Nat} {d d' : Dk} (h : Goes k d d') : ∀ (out : ByteArray) (ls : List (List UInt8)), playD d out (List.replicate k stepL ++ ls) = playD d' (out ++ repS k (okT ++ nlT)) ls := by
  induction h with
  | zero d =>
    intro out ls
    rw [show repS 0 (okT ++ nlT) = noT from rfl, app_noT]
    rfl
  | @more k d d' d'' h1 h2 ih =>
    intro out ls
    show playD (nextD d (baS stepL)) (out ++ ansD d (baS stepL) ++ nlT) (List.replicate k stepL ++ ls) = _
    have e1 : nextD d (baS stepL) = d' := by unfold nextD; rw [lineD_step, h1]
    have e2 : ansD d (baS stepL) = okT := by unfold ansD; rw [lineD_step, h1]; rfl
    rw [e1, e2, ih]
    congr 1
    apply ba_ext
    have c2 : ∀ a b : ByteArray, (a ++ b).data.toList = a.data.toList ++ b.data.toList := fun a b => by simp
    have c3 : (repS (k + 1) (okT ++ nlT)).data.toList = okT.data.toList ++ nlT.data.toList ++ (repS k (okT ++ nlT)).data.toList := by
      rw [repS_list, repS_list, List.replicate_succ, List.flatten_cons, c2]
    rw [c2, c2, c2, c2, c3]
    simp [List.append_assoc]
theorem stepD_of {d : Dk} {r : Rp} {m' : Mi} {x : Int} (h : replyD d.es d.m.want = (r, 0)) (h2 : d.m.hear r = (m', x)) : stepD d false = (⟨d.es, m'⟩, okT, some x) := by
  unfold stepD sentR
  rw [h]
  simp only
  rw [if_neg (by decide)]
  show ((⟨d.es, (d.m.hear r).1⟩ : Dk), okT, some (d.m.hear r).2) = _
  rw [h2]
section
variable {es : List Ent} {o : Nat} {hd : Hd} (hk : entsOk es)
include hk
theorem sh_all : (shH es 7 0).size = (es.length : Int) ∧ (shH es 7 0).root = ofL (es.map Ent.leaf) ∧ verK (shH es 7 0) 7 = 0 := by
  obtain ⟨_, h1, h2, _⟩ := sh_parts (shK_ok hk)
  exact ⟨by rw [h1], by rw [h1], h2⟩
theorem goes_head (ho : o < es.length) : stepD ⟨es, st 7 es o hd⟩ false = (⟨es, pg 7 es o hd (shH es 7 0) o⟩, okT, some 0) := by
  obtain ⟨h1, h2, h3⟩ := sh_all hk
  refine stepD_of (r := ⟨1, shH es 7 0, [], []⟩) ?_ (st_hear (Nat.le_of_lt ho) h3 (by rw [h1]; omega))
  show replyD es (st 7 es o hd).want = _
  rw [st_want trivial]
  unfold replyD
  rw [if_pos rfl, shK_ok hk]
theorem goes_page {a : Nat} (hoa : o ≤ a) (ha : a < es.length) : stepD ⟨es, pg 7 es o hd (shH es 7 0) a⟩ false = (⟨es, if o = 0 ∧ min es.length (a + 16) = es.length then st 7 es es.length (shH es 7 0) else pg 7 es o hd (shH es 7 0) (min es.length (a + 16))⟩, okT, some 0) := by
  obtain ⟨h1, h2, h3⟩ := sh_all hk
  have ht : es.take es.length = es := List.take_length ..
  refine stepD_of (r := ⟨2, hd00, (es.take (min es.length (a + 16))).drop a, []⟩) ?_ (pg_hear hoa ha (Nat.le_refl _) h1 (by rw [ht]; exact hk) (by rw [ht]; exact h2) rfl)
  show replyD es (pg 7 es o hd (shH es 7 0) a).want = _
  rw [pg_want hoa ha (Nat.le_refl _) h1]
  unfold replyD
  rw [if_neg (show ¬ (2 : Int) = 1 by decide), if_pos rfl]
  simp only [Int.toNat_natCast]
theorem goes_proof (h0 : 0 < o) (ho : o < es.length) : stepD ⟨es, pg 7 es o hd (shH es 7 0) es.length⟩ false = (⟨es, st 7 es es.length (shH es 7 0)⟩, okT, some 0) := by
  obtain ⟨h1, h2, h3⟩ := sh_all hk
  have ht : es.take es.length = es := List.take_length ..
  have hlf := leafs_of_ents hk
  have hlen : (es.map Ent.leaf).length = es.length := List.length_map ..
  have hgk : gmK (es.map Ent.leaf) o es.length = 0 := gmK_ok hlf ⟨by omega, by omega, by rw [hlen]; exact Int.le_refl _⟩
  have hgv : gmV (es.map Ent.leaf) o es.length = growL ((es.map Ent.leaf).take es.length) o true := by unfold gmV; rw [if_pos hgk, Int.toNat_natCast, Int.toNat_natCast]
  refine stepD_of (r := ⟨3, hd00, [], gmV (es.map Ent.leaf) o es.length⟩) ?_ (pg_hearP ho (Nat.le_refl _) h1 (by rw [ht]; exact hk) (by rw [ht]; exact h2) ?_)
  · show replyD es (pg 7 es o hd (shH es 7 0) es.length).want = _
    rw [pg_wantP (Nat.le_of_lt ho) (by omega) (Nat.le_refl _) h1]
    unfold replyD
    rw [if_neg (show ¬ (3 : Int) = 1 by decide), if_neg (show ¬ (3 : Int) = 2 by decide), hgk]
  · rw [hgv, List.map_take, List.map_take]
    exact gcheck_grow (by omega) (Nat.le_of_lt ho) (by rw [hlen]; exact Nat.le_refl _) hlf
theorem goes_pages : ∀ (k a : Nat), o ≤ a → a < es.length → es.length ≤ a + 16 * (k + 1) → a + 16 * k < es.length → Goes (k + 1) ⟨es, pg 7 es o hd (shH es 7 0) a⟩ ⟨es, if o = 0 then st 7 es es.length (shH es 7 0) else pg 7 es o hd (shH es 7 0) es.length⟩
  | 0, a, hoa, ha, h1, h2 => by
    refine .one ?_
    rw [goes_page hk hoa ha, Nat.min_eq_left (by omega)]
    simp
  | k + 1, a, hoa, ha, h1, h2 => by
    refine .more ?_ (goes_pages k (a + 16) (by omega) (by omega) (by omega) (by omega))
    rw [goes_page hk hoa ha, Nat.min_eq_right (by omega), if_neg (by omega)]
/-- a log is followed: a head, pages, and a proof where there were some before -/
theorem goes_all (ho : o < es.length) : Goes (1 + (es.length - o + 15) / 16 + (if o = 0 then 0 else 1)) ⟨es, st 7 es o hd⟩ ⟨es, st 7 es es.length (shH es 7 0)⟩ := by
  obtain ⟨k, hk2⟩ : ∃ k, (es.length - o + 15) / 16 = k + 1 := ⟨(es.length - o + 15) / 16 - 1, by omega⟩
  rw [hk2]
  have h1 := Goes.one (goes_head (hd := hd) hk ho)
  have h2 := goes_pages (o := o) (hd := hd) hk k o (Nat.le_refl _) ho (by omega) (by omega)
  by_cases h0 : o = 0
  · rw [if_pos h0] at h2 ⊢
    exact h1.cat h2
  · rw [if_neg h0] at h2 ⊢
    exact (h1.cat h2).cat (.one (goes_proof hk (by omega) ho))
end
def addL1 : List UInt8 := [97, 100, 100, 32, 49, 32, 120]
def addL2 : List UInt8 := [97, 100, 100, 32, 50, 32, 121]
def ent1 : Ent := ⟨1, ⟨#[120]⟩⟩
def ent2 : Ent := ⟨2, ⟨#[121]⟩⟩
theorem add_line {l r : List UInt8} {x : List UInt8} {n : Nat} {t : ByteArray} (h1 : wordV (baS l) = (wAdd, baS r, true)) (h2 : wordV (baS r) = (baS x, t, true)) (h3 : numR (baS x) 4 = some n) (h4 : (⟨n, t⟩ : Ent).ok) (d : Dk) (hd : d.es.length < 200) :
    lineD d (baS l) = ({ d with es := d.es ++ [⟨n, t⟩] }, okT, some 0) := by
  unfold lineD
  rw [h1]
  simp only
  rw [if_neg (by decide), if_pos trivial]
  unfold addD
  rw [h2]
  simp only [h3]
  rw [if_neg (by decide), if_neg (not_not_intro h4), if_neg (by omega)]
theorem add_1 (d : Dk) (hd : d.es.length < 200) : lineD d (baS addL1) = ({ d with es := d.es ++ [ent1] }, okT, some 0) :=
  add_line (l := addL1) (r := [49, 32, 120]) (x := [49]) (n := 1) (t := ⟨#[120]⟩) (word_two (a := [97, 100, 100]) (b := [49, 32, 120]) rfl (by decide)) (word_two (a := [49]) (b := [120]) rfl (by decide)) (by decide +kernel) (by decide) d hd
theorem add_2 (d : Dk) (hd : d.es.length < 200) : lineD d (baS addL2) = ({ d with es := d.es ++ [ent2] }, okT, some 0) :=
  add_line (l := addL2) (r := [50, 32, 121]) (x := [50]) (n := 2) (t := ⟨#[121]⟩) (word_two (a := [97, 100, 100]) (b := [50, 32, 121]) rfl (by decide)) (word_two (a := [50]) (b := [121]) rfl (by decide)) (by decide +kernel) (by decide) d hd
def esF (n more : Nat) : List Ent := List.replicate n ent1 ++ List.replicate more ent2
theorem esF_len (n more : Nat) : (esF n more).length = n + more := by simp [esF]
theorem esF_ok {n more : Nat} (h : n + more ≤ 200) : entsOk (esF n more) := ⟨by rw [esF_len]; exact h, fun e he => by
  rcases List.mem_append.1 he with he | he
  · rw [List.mem_replicate] at he
    obtain ⟨_, rfl⟩ := he
    decide
  · rw [List.mem_replicate] at he
    obtain ⟨_, rfl⟩ := he
    decide⟩
/-- the text of a session that follows -/
def tailS : ByteArray := ⟨#[115, 116, 97, 116, 101, 10, 97, 115, 107, 32, 104, 101, 97, 100, 10]⟩
def folT (n more : Nat) : ByteArray := repS n (baS (addL1 ++ [10])) ++ repS (1 + (n + 15) / 16) (baS (stepL ++ [10])) ++ repS more (baS (addL2 ++ [10])) ++ repS (2 + (more + 15) / 16) (baS (stepL ++ [10])) ++ tailS
def folW (n more : Nat) : ByteArray := repS n (okT ++ nlT) ++ repS (1 + (n + 15) / 16) (okT ++ nlT) ++ repS more (okT ++ nlT) ++ repS (2 + (more + 15) / 16) (okT ++ nlT)
theorem folT_size {n more : Nat} (hn : n ≤ 40) (hm : more ≤ 40) : (folT n more).size ≤ 3000 := by
  unfold folT
  simp only [ByteArray.size_append, repS_size]
  show n * 8 + (1 + (n + 15) / 16) * 5 + more * 8 + (2 + (more + 15) / 16) * 5 + 15 ≤ 3000
  omega
theorem folT_lines (n more : Nat) : linesL (folT n more).data.toList = List.replicate n addL1 ++ (List.replicate (1 + (n + 15) / 16) stepL ++ (List.replicate more addL2 ++ (List.replicate (2 + (more + 15) / 16) stepL ++ [[115, 116, 97, 116, 101], [97, 115, 107, 32, 104, 101, 97, 100]]))) := by
  have e2 : ∀ a b : ByteArray, (a ++ b).data.toList = a.data.toList ++ b.data.toList := fun a b => by simp
  unfold folT
  rw [e2, e2, e2, e2, repS_list, repS_list, repS_list, repS_list, List.append_assoc, List.append_assoc, List.append_assoc]
  show linesL ((List.replicate n (addL1 ++ [10])).flatten ++ ((List.replicate _ (stepL ++ [10])).flatten ++ ((List.replicate more (addL2 ++ [10])).flatten ++ ((List.replicate _ (stepL ++ [10])).flatten ++ tailS.data.toList)))) = _
  rw [lines_rep (by decide), lines_rep (by decide), lines_rep (by decide), lines_rep (by decide)]
  congr 4
def lastD (n more : Nat) : Dk := ⟨esF n more, st 7 (esF n more) (n + more) (shH (esF n more) 7 0)⟩
theorem fol_runs {n more : Nat} (h1 : 1 ≤ n) (hn : n ≤ 40) (h2 : 1 ≤ more) (hm : more ≤ 40) :
    runT (folT n more) = folW n more ++ (digB (n + more) ++ spT ++ hexT (ofL ((esF n more).map Ent.leaf)).toNat) ++ nlT ++ headB (shH (esF n more) 7 0) ++ nlT := by
  rw [runT_ok (folT_size hn hm), folT_lines]
  have hk0 : entsOk (List.replicate n ent1) := by have := esF_ok (n := n) (more := 0) (by omega); simpa [esF] using this
  have hk := esF_ok (n := n) (more := more) (by omega)
  rw [adds_play add_1 n dk0 noT _ (by show 0 + n ≤ 200; omega)]
  have g1 := goes_all (es := List.replicate n ent1) (o := 0) (hd := hd00) hk0 (by rw [List.length_replicate]; omega)
  rw [if_pos rfl, List.length_replicate, Nat.sub_zero, Nat.add_zero] at g1
  have d1 : ({ dk0 with es := dk0.es ++ List.replicate n ent1 } : Dk) = ⟨List.replicate n ent1, st 7 (List.replicate n ent1) 0 hd00⟩ := rfl
  rw [d1, goes_play g1, adds_play add_2 more _ _ _ (by show (List.replicate n ent1).length + more ≤ 200; rw [List.length_replicate]; omega)]
  obtain ⟨hd1, hhd1⟩ : ∃ h, shH (List.replicate n ent1) 7 0 = h := ⟨_, rfl⟩
  have hst : ({ (⟨List.replicate n ent1, st 7 (List.replicate n ent1) n (shH (List.replicate n ent1) 7 0)⟩ : Dk) with es := List.replicate n ent1 ++ List.replicate more ent2 } : Dk) = ⟨esF n more, st 7 (esF n more) n hd1⟩ := by
    rw [hhd1]
    show (⟨esF n more, st 7 (List.replicate n ent1) n hd1⟩ : Dk) = _
    congr 1
    unfold st
    have e : (esF n more).take n = (List.replicate n ent1).take n := by
      unfold esF
      rw [List.take_append_of_le_length (by rw [List.length_replicate]; exact Nat.le_refl _)]
    rw [e]
  rw [hst]
  have g2 := goes_all (es := esF n more) (o := n) (hd := hd1) hk (by rw [esF_len]; omega)
  rw [if_neg (by omega), esF_len, show n + more - n = more by omega, show 1 + (more + 15) / 16 + 1 = 2 + (more + 15) / 16 by omega] at g2
  rw [goes_play g2]
  have hown : (st 7 (esF n more) (n + more) (shH (esF n more) 7 0)).own = esF n more := by
    show (esF n more).take (n + more) = _
    exact List.take_of_length_le (by rw [esF_len]; exact Nat.le_refl _)
  have a1 : lineD ⟨esF n more, st 7 (esF n more) (n + more) (shH (esF n more) 7 0)⟩ (baS [115, 116, 97, 116, 101]) = (⟨esF n more, st 7 (esF n more) (n + more) (shH (esF n more) 7 0)⟩, digB (n + more) ++ spT ++ hexT (ofL ((esF n more).map Ent.leaf)).toNat, some 0) := by
    unfold lineD
    rw [word_one (by decide)]
    simp only
    rw [if_pos trivial]
    unfold aloneD
    rw [if_neg (by decide), if_neg (by decide), if_neg (by decide), if_pos (by decide)]
    unfold stateT
    simp only
    rw [hown, rootE_ok hk, esF_len]
  have a2 : lineD ⟨esF n more, st 7 (esF n more) (n + more) (shH (esF n more) 7 0)⟩ (baS [97, 115, 107, 32, 104, 101, 97, 100]) = (⟨esF n more, st 7 (esF n more) (n + more) (shH (esF n more) 7 0)⟩, headB (shH (esF n more) 7 0), some 0) := by
    have w1 : wordV (baS [97, 115, 107, 32, 104, 101, 97, 100]) = (wAsk, wHead, true) := word_two (a := [97, 115, 107]) (b := [104, 101, 97, 100]) rfl (by decide)
    have w2 : askR wHead = some (wHead, []) := by decide +kernel
    have w3 : ansR (esF n more) 7 0 wHead = (headB (shH (esF n more) 7 0), 0) := by
      unfold ansR
      rw [w2]
      simp only
      rw [shK_ok hk, if_neg (by decide)]
      unfold ansW
      rw [if_pos rfl]
    unfold lineD
    rw [w1]
    simp only
    rw [if_neg (by decide), if_neg (by decide), if_pos trivial, w3]
  unfold playD nextD ansD
  rw [a1]
  simp only
  unfold playD nextD ansD
  rw [a2]
  simp only
  unfold playD outT
  simp only
  rw [if_pos trivial, if_pos trivial, noT_app]
  rfl
theorem ten_cat {a b : ByteArray} (h : ∀ x ∈ a.data.toList, x ≠ 10) (k : ∀ x ∈ b.data.toList, x ≠ 10) : ∀ x ∈ (a ++ b).data.toList, x ≠ 10 := by
  intro x hx
  rw [ByteArray.data_append, Array.toList_append] at hx
  rcases List.mem_append.1 hx with hx | hx
  · exact h x hx
  · exact k x hx
theorem ten_dig (n : Nat) : ∀ x ∈ (digB n).data.toList, x ≠ 10 := by
  intro b hb
  rw [digB_dec n n (Nat.le_refl _)] at hb
  have key : ∀ (N n : Nat), n ≤ N → ∀ b ∈ Lib.decDigits n, b ≠ 10 := by
    intro N
    induction N with
    | zero => intro n h b hb
              obtain rfl : n = 0 := by omega
              rw [Lib.decDigits, dif_pos (by omega)] at hb
              obtain rfl : b = UInt8.ofNat (48 + 0) := by simpa using hb
              decide
    | succ N ih =>
      intro n h b hb
      have h10 : ∀ d, d < 10 → UInt8.ofNat (48 + d) ≠ 10 := by decide
      by_cases h1 : n < 10
      · rw [Lib.decDigits, dif_pos h1] at hb
        obtain rfl : b = UInt8.ofNat (48 + n) := by simpa using hb
        exact h10 n h1
      · rw [Lib.decDigits, dif_neg h1] at hb
        rcases List.mem_append.1 hb with hb | hb
        · exact ih (n / 10) (by omega) b hb
        · obtain rfl : b = UInt8.ofNat (48 + n % 10) := by simpa using hb
          exact h10 _ (Nat.mod_lt _ (by decide))
  exact key n n (Nat.le_refl _) b hb
theorem ten_hex (n : Nat) : ∀ x ∈ (hexT n).data.toList, x ≠ 10 := by
  have key : ∀ (k n : Nat), ∀ x ∈ (lowHex n k).data.toList, x ≠ 10 := by
    intro k
    induction k with
    | zero => intro n b hb; exact absurd hb (by simp [lowHex])
    | succ k ih =>
      intro n
      rw [lowHex_snoc]
      intro b hb
      rw [ByteArray.data_append, Array.toList_append] at hb
      rcases List.mem_append.1 hb with hb | hb
      · exact ih _ b hb
      · have h16 : ∀ d, d < 16 → ∀ b ∈ (hx d).data.toList, b ≠ 10 := by decide +kernel
        exact h16 _ (Nat.mod_lt _ (by decide)) b hb
  exact key 8 n
/-- what is looked at in what is answered -/
theorem fol_law {n more : Nat} (h1 : 1 ≤ n) (hn : n ≤ 40) (h2 : 1 ≤ more) (hm : more ≤ 40) :
    (folW n more).size ≤ (runT (folT n more)).size ∧ (runT (folT n more)).extract 0 (folW n more).size = folW n more ∧
    ∃ x y : ByteArray, partsB 10 ((runT (folT n more)).extract (folW n more).size (runT (folT n more)).size) = [x, y, noT] ∧ partsB 32 x = [digB (n + more), hexT (ofL ((esF n more).map Ent.leaf)).toNat] ∧ (x.size ≤ 100 ∧ y.size ≤ 100 ∧ ((runT (folT n more)).extract (folW n more).size (runT (folT n more)).size).size ≤ 300) ∧ ∃ t z, partsB 32 y = [digB (n + more), hexT (ofL ((esF n more).map Ent.leaf)).toNat, t, z] := by
  have hk := esF_ok (n := n) (more := more) (by omega)
  obtain ⟨s1, s2, _⟩ := sh_all hk
  have zX : (digB (n + more) ++ spT ++ hexT (ofL ((esF n more).map Ent.leaf)).toNat).size ≤ 100 := by
    rw [ByteArray.size_append, ByteArray.size_append, hexT_size]
    have h1 := digB_small 2 (n + more) (by show _ < 1000; omega)
    have h2 : spT.size = 1 := rfl
    omega
  have zY : (headB (shH (esF n more) 7 0)).size ≤ 100 := by
    obtain ⟨_, hsp, _, _⟩ := sh_parts (shK_ok hk)
    unfold headB
    rw [four4_size, hexT_size, hexT_size, hsp]
    dsimp only
    have h1 := digB_small 2 ((esF n more).length : Int).toNat (by rw [esF_len]; show _ < 1000; omega)
    have h2 := digB_small 2 (0 : Int).toNat (by decide)
    omega
  obtain ⟨X, hX⟩ : ∃ X, digB (n + more) ++ spT ++ hexT (ofL ((esF n more).map Ent.leaf)).toNat = X := ⟨_, rfl⟩
  obtain ⟨Y, hY⟩ : ∃ Y, headB (shH (esF n more) 7 0) = Y := ⟨_, rfl⟩
  rw [hX] at zX
  rw [hY] at zY
  have hr : runT (folT n more) = folW n more ++ (X ++ nlT ++ Y ++ nlT) := by
    rw [fol_runs h1 hn h2 hm, hX, hY]
    simp only [ByteArray.append_assoc]
  obtain ⟨c1, c2⟩ := begins_cut hr
  refine ⟨c1, c2, X, Y, ?_, ?_, ⟨zX, zY, ?_⟩, digB (shH (esF n more) 7 0).time.toNat, hexT (shH (esF n more) 7 0).sign.toNat, ?_⟩
  · have f10 : ∀ b ∈ X.data.toList, b ≠ 10 := by
      rw [← hX]
      exact ten_cat (ten_cat (ten_dig _) (by decide)) (ten_hex _)
    have g10 : ∀ b ∈ Y.data.toList, b ≠ 10 := by
      rw [← hY]
      exact ten_cat (ten_cat (ten_cat (ten_cat (ten_cat (ten_cat (ten_dig _) (by decide)) (ten_hex _)) (by decide)) (ten_dig _)) (by decide)) (ten_hex _)
    have e : ((runT (folT n more)).extract (folW n more).size (runT (folT n more)).size).data.toList = X.data.toList ++ 10 :: (Y.data.toList ++ 10 :: []) := by
      rw [Lib.extract_data, hr]
      have h3 : (folW n more ++ (X ++ nlT ++ Y ++ nlT)).data.toList = (folW n more).data.toList ++ (X.data.toList ++ 10 :: (Y.data.toList ++ 10 :: [])) := by
        show (folW n more ++ (X ++ ⟨#[10]⟩ ++ Y ++ ⟨#[10]⟩)).data.toList = _
        simp
      have h4 : (folW n more).data.toList.length = (folW n more).size := rfl
      have h5 : (folW n more ++ (X ++ nlT ++ Y ++ nlT)).data.toList.length = (folW n more ++ (X ++ nlT ++ Y ++ nlT)).size := rfl
      rw [h3, ← h4, List.drop_left, List.take_of_length_le]
      rw [← h5, h3]
      simp only [List.length_append]
      omega
    unfold partsB
    rw [e, partsL_app 10 _ _ f10, partsL_app 10 _ _ g10]
    show [(⟨X.data.toList.toArray⟩ : ByteArray), ⟨Y.data.toList.toArray⟩, ⟨#[]⟩] = _
    rfl
  · exact parts_two hX.symm (free_dig _) (free_hex _)
  · rw [ByteArray.size_extract, hr]
    simp only [ByteArray.size_append]
    have h2 : nlT.size = 1 := rfl
    omega
  · rw [← hY]
    unfold headB
    rw [parts_four (free_dig _) (free_hex _) (free_dig _) (free_hex _), s1, s2, esF_len, Int.toNat_natCast]
end Go.Proofs.YtnphbkjkeipmmaaGreatDoor

/- RunFollows: the walk. -/
namespace Go.Proofs.YtnphbkjkeipmmaaGreatDoor.runFollows
open Go.RowKit Go.WideShapes
set_option linter.unusedVariables false
attribute [local go_sem ↓] Go.wp_at_zero Go.wp_at_succ

theorem rep_next {P X u : ByteArray} {i : Nat} (h : u = P ++ repS i X) : u ++ X = P ++ repS (i + 1) X := by
  rw [h, ByteArray.append_assoc]
  rfl
theorem rep_sz {P X u : ByteArray} {i : Nat} (h : u = P ++ repS i X) : u.size = P.size + i * X.size := by
  rw [h, ByteArray.size_append, repS_size]
def A1 : ByteArray := ⟨#[97, 100, 100, 32, 49, 32, 120, 10]⟩
def A2 : ByteArray := ⟨#[97, 100, 100, 32, 50, 32, 121, 10]⟩
def ST : ByteArray := ⟨#[115, 116, 101, 112, 10]⟩
def OK : ByteArray := ⟨#[111, 107, 10]⟩
/-- rows of strings, read -/
theorem row2 {w : World} {b c : Nat} {A : Option Addr} {x y : ByteArray} (h : w.ownsRow b 9 1 (.slice A 2 c) 2 [.string x, .string y]) : ∃ ad, A = some ad ∧ c ≤ 9223372036854775807 ∧ 2 ≤ c ∧ ∀ W, Ext w W → W.cell? ad = some (.string x) ∧ W.cell? ⟨ad.block, ad.off + 1, none⟩ = some (.string y) := by
  obtain ⟨A1, c1, hv, hc1, R1, -⟩ := own_rd h
  injection hv with a _ d
  subst a d
  obtain ⟨ad, rfl, _, -⟩ := R1.at_ (j := 0) (u := .string x) rfl
  refine ⟨ad, rfl, by unfold maxLen at hc1; omega, R1.2.1, fun W e => ?_⟩
  obtain ⟨ad', h1, hl, hh⟩ := (R1.ext e).2.2 (by omega)
  obtain rfl : ad = ad' := by injection h1
  have h0 := hh 0 _ rfl
  rw [add_zero'] at h0
  exact ⟨h0, hh 1 _ rfl⟩
theorem row3 {w : World} {b c : Nat} {A : Option Addr} {x y z : ByteArray} (h : w.ownsRow b 9 1 (.slice A 3 c) 3 [.string x, .string y, .string z]) : ∃ ad, A = some ad ∧ c ≤ 9223372036854775807 ∧ 3 ≤ c ∧ ∀ W, Ext w W → W.cell? ad = some (.string x) ∧ W.cell? ⟨ad.block, ad.off + 1, none⟩ = some (.string y) := by
  obtain ⟨A1, c1, hv, hc1, R1, -⟩ := own_rd h
  injection hv with a _ d
  subst a d
  obtain ⟨ad, rfl, _, -⟩ := R1.at_ (j := 0) (u := .string x) rfl
  refine ⟨ad, rfl, by unfold maxLen at hc1; omega, R1.2.1, fun W e => ?_⟩
  obtain ⟨ad', h1, hl, hh⟩ := (R1.ext e).2.2 (by omega)
  obtain rfl : ad = ad' := by injection h1
  have h0 := hh 0 _ rfl
  rw [add_zero'] at h0
  exact ⟨h0, hh 1 _ rfl⟩
theorem row4 {w : World} {b c : Nat} {A : Option Addr} {x y z t : ByteArray} (h : w.ownsRow b 9 1 (.slice A 4 c) 4 [.string x, .string y, .string z, .string t]) : ∃ ad, A = some ad ∧ c ≤ 9223372036854775807 ∧ 4 ≤ c ∧ ∀ W, Ext w W → W.cell? ad = some (.string x) ∧ W.cell? ⟨ad.block, ad.off + 1, none⟩ = some (.string y) := by
  obtain ⟨A1, c1, hv, hc1, R1, -⟩ := own_rd h
  injection hv with a _ d
  subst a d
  obtain ⟨ad, rfl, _, -⟩ := R1.at_ (j := 0) (u := .string x) rfl
  refine ⟨ad, rfl, by unfold maxLen at hc1; omega, R1.2.1, fun W e => ?_⟩
  obtain ⟨ad', h1, hl, hh⟩ := (R1.ext e).2.2 (by omega)
  obtain rfl : ad = ad' := by injection h1
  have h0 := hh 0 _ rfl
  rw [add_zero'] at h0
  exact ⟨h0, hh 1 _ rfl⟩
theorem cut_form {s : ByteArray} {c : UInt8} {w w' : World} {v : Value} {l : List ByteArray} (hp : partsB c s = l) (h : OwnS w w' v (partsB c s)) : ∃ A k, v = .slice A l.length k ∧ w'.ownsRow w.heap.size 9 1 (.slice A l.length k) l.length (l.map Value.string) := by
  rw [hp] at h
  unfold OwnS at h
  obtain ⟨A, k, rfl, _, _, _⟩ := own_rd h
  exact ⟨A, k, rfl, h⟩
set_option maxRecDepth 100000 in
set_option maxHeartbeats 8000000 in
theorem walk (n more : Int) (w : World) (hS : StrG w) (hD : DebG w) (hP : PowG w) (hM : MaxG w) (hg : ErrG w) :
    Calls Tryz.prog 5 #[.int .i64 n, .int .i64 more] w fun e w' => e = .returned (.bool true) ∧ Ext w w' := by
  by_cases hr : 1 ≤ n ∧ n ≤ 40 ∧ 1 ≤ more ∧ more ≤ 40
  case neg =>
    have hr' : n < 1 ∨ (¬ n < 1 ∧ 40 < n) ∨ (¬ n < 1 ∧ ¬ 40 < n ∧ more < 1) ∨ (¬ n < 1 ∧ ¬ 40 < n ∧ ¬ more < 1 ∧ 40 < more) := by omega
    clear hr hS hD hP hM hg
    rcases hr' with h | ⟨h, h2⟩ | ⟨h, h2, h3⟩ | ⟨h, h2, h3, h4⟩
    all_goals
      go_enter Tryz.func5, Tryz.ntmps5
      go_wp2_with fail
      go_ret
      exact ⟨rfl, Ext.refl _⟩
  obtain ⟨r1, r2, r3, r4⟩ := hr
  obtain ⟨n, rfl⟩ := Int.eq_ofNat_of_zero_le (show 0 ≤ n by omega)
  obtain ⟨m, rfl⟩ := Int.eq_ofNat_of_zero_le (show 0 ≤ more by omega)
  have n1 : 1 ≤ n := by omega
  have n40 : n ≤ 40 := by omega
  have m1 : 1 ≤ m := by omega
  have m40 : m ≤ 40 := by omega
  have HRN : Hid (∀ (x : ByteArray) W, Ext w W → Calls Tryz.prog 6 #[.string x] W fun e w' => e = .returned (.string (runT x)) ∧ Ext W w') := Lib.hid fun x W e => Run_any x W (hD.ext e) (hP.ext e) (hS.ext e) (hM.ext e) (hg.ext e)
  have HCT := Lib.hid fun (x : ByteArray) (c : UInt8) W (h : x.size ≤ 1048576) => RCut_any x c W h
  have HDG := Lib.hid fun W => RDigits_any (n + m) (n + m) W (Nat.le_refl _) (by omega)
  have HLAW := Lib.hid (fol_law n1 n40 m1 m40)
  obtain ⟨k1, hk1⟩ : ∃ k, (n + 15) / 16 = k := ⟨_, rfl⟩
  obtain ⟨k2, hk2⟩ : ∃ k, (m + 15) / 16 = k := ⟨_, rfl⟩
  have hq1 : ((n : Int) + 15).tdiv 16 = (k1 : Int) := by rw [← hk1]; rfl
  have hq2 : ((m : Int) + 15).tdiv 16 = (k2 : Int) := by rw [← hk2]; rfl
  have hq1' : ((n : Int) + 15) / 16 = (k1 : Int) := by omega
  have hq2' : ((m : Int) + 15) / 16 = (k2 : Int) := by omega
  have hk1b : k1 ≤ 3 := by omega
  have hk2b : k2 ≤ 3 := by omega
  have HK1 := Lib.hid hk1
  have HK2 := Lib.hid hk2
  have HFT : Hid (∀ u1 u2 u3 u4 u5 : ByteArray, u1 = noT ++ repS n A1 → u2 = u1 ++ repS (1 + k1) ST → u3 = u2 ++ repS m A2 → u4 = u3 ++ repS (2 + k2) ST → u5 = u4 ++ tailS → u5 = folT n m) := Lib.hid fun u1 u2 u3 u4 u5 e1 e2 e3 e4 e5 => by
    rw [e5, e4, e3, e2, e1, noT_app, ← hk1, ← hk2]
    rfl
  have HFW : Hid (∀ u1 u2 u3 u4 : ByteArray, u1 = noT ++ repS n OK → u2 = u1 ++ repS (1 + k1) OK → u3 = u2 ++ repS m OK → u4 = u3 ++ repS (2 + k2) OK → u4 = folW n m) := Lib.hid fun u1 u2 u3 u4 e1 e2 e3 e4 => by
    rw [e4, e3, e2, e1, noT_app, ← hk1, ← hk2]
    rfl
  clear hk1 hk2 hS hD hP hM hg r1 r2 r3 r4
  have za1 : A1.size = 8 := rfl
  have za2 : A2.size = 8 := rfl
  have zst : ST.size = 5 := rfl
  have zok : OK.size = 3 := rfl
  have zno : noT.size = 0 := rfl
  go_enter Tryz.func5, Tryz.ntmps5
  go_wp2_with fail
  go_loopw [5, 6, 7] (fun a b x wr => ∃ (i : Nat) (u v : ByteArray), a = .string u ∧ b = .string v ∧ x = .int .i64 i ∧ i ≤ n ∧ u.size ≤ 320 ∧ v.size ≤ 120 ∧ Hid (u = noT ++ repS i A1) ∧ Hid (v = noT ++ repS i OK) ∧ Ext w wr) (fun _ _ x _ => n - (intOf x).toNat)
  case atStart => exact ⟨0, noT, noT, rfl, rfl, rfl, Nat.zero_le _, Nat.zero_le _, Nat.zero_le _, Lib.hid (noT_app _).symm, Lib.hid (noT_app _).symm, Ext.refl _⟩
  case round =>
    obtain ⟨i, u, v, rfl, rfl, rfl, hi, hzu, hzv, HU, HV, hbw⟩ := hrel
    by_cases hc : i < n
    · have hci : (i : Int) < (n : Int) := by omega
      have s1 := rep_sz (rep_next HU.out)
      have s2 := rep_sz (rep_next HV.out)
      rw [za1, zno] at s1
      rw [zok, zno] at s2
      have HNU := Lib.hid (rep_next HU.out)
      have HNV := Lib.hid (rep_next HV.out)
      go_wp2_with fail
      go_roundw
      case rel => exact ⟨i + 1, u ++ A1, v ++ OK, rfl, rfl, by go_num, by omega, by omega, by omega, HNU, HNV, hbw⟩
      case measure => simp [intOf]; omega
    obtain rfl : n = i := by omega
    obtain ⟨U1, hU1⟩ : ∃ z, z = u := ⟨_, rfl⟩
    subst hU1
    obtain ⟨V1, hV1⟩ : ∃ z, z = v := ⟨_, rfl⟩
    subst hV1
    have HU1 := HU
    have HV1 := HV
    have zu1 := hzu
    have zv1 := hzv
    obtain ⟨wa1, hwa⟩ : ∃ z, z = wr := ⟨_, rfl⟩
    subst hwa
    clear HU HV hzu hzv
    go_wp2_with fail
    go_loopw [5, 6, 8] (fun a b x wr => ∃ (i : Nat) (u v : ByteArray), a = .string u ∧ b = .string v ∧ x = .int .i64 i ∧ i ≤ 1 + k1 ∧ u.size ≤ 420 ∧ v.size ≤ 200 ∧ Hid (u = U1 ++ repS i ST) ∧ Hid (v = V1 ++ repS i OK) ∧ Ext w wr) (fun _ _ x _ => 1 + k1 - (intOf x).toNat)
    case atStart => exact ⟨0, U1, V1, rfl, rfl, rfl, Nat.zero_le _, by omega, by omega, Lib.hid (app_noT _).symm, Lib.hid (app_noT _).symm, hbw⟩
    case round =>
      obtain ⟨i, u, v, rfl, rfl, rfl, hi, hzu, hzv, HU, HV, hbw⟩ := hrel
      by_cases hc : i < 1 + k1
      · have hci : (i : Int) < 1 + (k1 : Int) := by omega
        have s1 := rep_sz (rep_next HU.out)
        have s2 := rep_sz (rep_next HV.out)
        rw [zst] at s1
        rw [zok] at s2
        have HNU := Lib.hid (rep_next HU.out)
        have HNV := Lib.hid (rep_next HV.out)
        go_wp2_with fail
        go_roundw
        case rel => exact ⟨i + 1, u ++ ST, v ++ OK, rfl, rfl, by go_num, by omega, by omega, by omega, HNU, HNV, hbw⟩
        case measure => simp [intOf]; omega
      obtain rfl : i = 1 + k1 := by omega
      obtain ⟨U2, hU2⟩ : ∃ z, z = u := ⟨_, rfl⟩
      subst hU2
      obtain ⟨V2, hV2⟩ : ∃ z, z = v := ⟨_, rfl⟩
      subst hV2
      have HU2 := HU
      have HV2 := HV
      have zu2 := hzu
      have zv2 := hzv
      obtain ⟨wa2, hwa⟩ : ∃ z, z = wr := ⟨_, rfl⟩
      subst hwa
      clear HU HV hzu hzv
      go_wp2_with fail
      go_loopw [5, 6, 9] (fun a b x wr => ∃ (i : Nat) (u v : ByteArray), a = .string u ∧ b = .string v ∧ x = .int .i64 i ∧ i ≤ m ∧ u.size ≤ 800 ∧ v.size ≤ 400 ∧ Hid (u = U2 ++ repS i A2) ∧ Hid (v = V2 ++ repS i OK) ∧ Ext w wr) (fun _ _ x _ => m - (intOf x).toNat)
      case atStart => exact ⟨0, U2, V2, rfl, rfl, rfl, Nat.zero_le _, by omega, by omega, Lib.hid (app_noT _).symm, Lib.hid (app_noT _).symm, hbw⟩
      case round =>
        obtain ⟨i, u, v, rfl, rfl, rfl, hi, hzu, hzv, HU, HV, hbw⟩ := hrel
        by_cases hc : i < m
        · have hci : (i : Int) < (m : Int) := by omega
          have s1 := rep_sz (rep_next HU.out)
          have s2 := rep_sz (rep_next HV.out)
          rw [za2] at s1
          rw [zok] at s2
          have HNU := Lib.hid (rep_next HU.out)
          have HNV := Lib.hid (rep_next HV.out)
          go_wp2_with fail
          go_roundw
          case rel => exact ⟨i + 1, u ++ A2, v ++ OK, rfl, rfl, by go_num, by omega, by omega, by omega, HNU, HNV, hbw⟩
          case measure => simp [intOf]; omega
        obtain rfl : m = i := by omega
        obtain ⟨U3, hU3⟩ : ∃ z, z = u := ⟨_, rfl⟩
        subst hU3
        obtain ⟨V3, hV3⟩ : ∃ z, z = v := ⟨_, rfl⟩
        subst hV3
        have HU3 := HU
        have HV3 := HV
        have zu3 := hzu
        have zv3 := hzv
        obtain ⟨wa3, hwa⟩ : ∃ z, z = wr := ⟨_, rfl⟩
        subst hwa
        clear HU HV hzu hzv
        go_wp2_with fail
        go_loopw [5, 6, 10] (fun a b x wr => ∃ (i : Nat) (u v : ByteArray), a = .string u ∧ b = .string v ∧ x = .int .i64 i ∧ i ≤ 2 + k2 ∧ u.size ≤ 900 ∧ v.size ≤ 500 ∧ Hid (u = U3 ++ repS i ST) ∧ Hid (v = V3 ++ repS i OK) ∧ Ext w wr) (fun _ _ x _ => 2 + k2 - (intOf x).toNat)
        case atStart => exact ⟨0, U3, V3, rfl, rfl, rfl, Nat.zero_le _, by omega, by omega, Lib.hid (app_noT _).symm, Lib.hid (app_noT _).symm, hbw⟩
        case round =>
          obtain ⟨i, u, v, rfl, rfl, rfl, hi, hzu, hzv, HU, HV, hbw⟩ := hrel
          by_cases hc : i < 2 + k2
          · have hci : (i : Int) < 2 + (k2 : Int) := by omega
            have s1 := rep_sz (rep_next HU.out)
            have s2 := rep_sz (rep_next HV.out)
            rw [zst] at s1
            rw [zok] at s2
            have HNU := Lib.hid (rep_next HU.out)
            have HNV := Lib.hid (rep_next HV.out)
            go_wp2_with fail
            go_roundw
            case rel => exact ⟨i + 1, u ++ ST, v ++ OK, rfl, rfl, by go_num, by omega, by omega, by omega, HNU, HNV, hbw⟩
            case measure => simp [intOf]; omega
          obtain rfl : i = 2 + k2 := by omega
          obtain ⟨U4, hU4⟩ : ∃ z, z = u := ⟨_, rfl⟩
          subst hU4
          obtain ⟨V4, hV4⟩ : ∃ z, z = v := ⟨_, rfl⟩
          subst hV4
          have HU4 := HU
          have HV4 := HV
          have zu4 := hzu
          have zv4 := hzv
          obtain ⟨wa4, hwa⟩ : ∃ z, z = wr := ⟨_, rfl⟩
          subst hwa
          clear HU HV hzu hzv
          obtain ⟨F, hF⟩ : ∃ F, U4 ++ tailS = F := ⟨_, rfl⟩
          have hFT := HFT.out U1 U2 U3 U4 F HU1.out HU2.out HU3.out HU4.out hF.symm
          have hFW := HFW.out V1 V2 V3 V4 HV1.out HV2.out HV3.out HV4.out
          have hF' : U4 ++ ⟨#[115, 116, 97, 116, 101, 10, 97, 115, 107, 32, 104, 101, 97, 100, 10]⟩ = F := hF
          obtain ⟨q1, q2, x, y, q3, q4, ⟨zx0, zy0, zT0⟩, t, z, q5⟩ := HLAW.out
          have zr := runT_size (folT n m)
          obtain ⟨R, hR⟩ : ∃ R, runT (folT n m) = R := ⟨_, rfl⟩
          rw [hR, ← hFW] at q1 q2 q3 zT0
          rw [hR] at zr
          have HRF : Hid (∀ W, Ext w W → Calls Tryz.prog 6 #[.string F] W fun e w' => e = .returned (.string R) ∧ Ext W w') := Lib.hid fun W e => by
            have := HRN.out F W e
            rw [hFT, hR] at this
            rw [hFT]
            exact this
          obtain ⟨dg, hdg⟩ : ∃ d, digB (n + m) = d := ⟨_, rfl⟩
          obtain ⟨hx, hhx⟩ : ∃ d, hexT (ofL ((esF n m).map Ent.leaf)).toNat = d := ⟨_, rfl⟩
          rw [hdg, hhx] at q4 q5
          rw [hdg] at HDG
          obtain ⟨T, hT⟩ : ∃ T, R.extract V4.size R.size = T := ⟨_, rfl⟩
          rw [hT] at q3 zT0
          have zT : T.size ≤ 1048576 := by omega
          have zx : x.size ≤ 1048576 := by omega
          have zy : y.size ≤ 1048576 := by omega
          have q1i : (V4.size : Int) ≤ (R.size : Int) := by omega
          have q1n : ¬ (R.size : Int) < (V4.size : Int) := by omega
          have hbq : ((R.extract 0 V4.size).toList == V4.toList) = true := by rw [q2]; exact beq_iff_eq.2 rfl
          have hdd : (dg.toList == dg.toList) = true := beq_iff_eq.2 rfl
          have hxxx : (hx.toList == hx.toList) = true := beq_iff_eq.2 rfl
          have Q3 := Lib.hid q3
          have Q4 := Lib.hid q4
          have Q5 := Lib.hid q5
          have HC1 := Lib.hid fun W => HCT.out T 10 W zT
          have HC2 := Lib.hid fun W => HCT.out x 32 W zx
          have HC3 := Lib.hid fun W => HCT.out y 32 W zy
          have HFE := Lib.hid hF'
          have HTE := Lib.hid hT
          clear hF hFT hFW hF' q1 q2 q3 q4 q5 hR hT hdg hhx HFT HFW HRN HCT HLAW HU1 HU2 HU3 HU4 HV1 HV2 HV3 HV4 zu1 zv1 zu2 zv2 zu3 zv3
          go_upto_region 26 with (fail)
          rw [HFE.out]
          go_wp2_with fail
          refine (HRF.out _ hbw).mono ?_
          rintro _ wb ⟨rfl, hb2⟩
          have EB := Lib.hid (hbw.trans hb2)
          clear hb2 hbw
          go_upto_region 29 with (fail)
          go_wp2_with fail
          rw [HTE.out]
          refine (HC1.out _).mono ?_
          rintro _ wc ⟨⟨v5, rfl, own5⟩, hb3⟩
          obtain ⟨A5, c5, rfl, own5'⟩ := cut_form Q3.out own5
          obtain ⟨ad5, rfl, l5, m5, HX5⟩ := row3 own5'
          have HX5 := Lib.hid HX5
          have EC := Lib.hid (EB.out.trans hb3)
          obtain ⟨x50, x51⟩ := HX5.out wc (Ext.refl _)
          clear own5 own5' hb3
          go_wp2_with fail
          refine (HC2.out _).mono ?_
          rintro _ wd ⟨⟨v6, rfl, own6⟩, hb4⟩
          obtain ⟨A6, c6, rfl, own6'⟩ := cut_form Q4.out own6
          obtain ⟨ad6, rfl, l6, m6, HX6⟩ := row2 own6'
          have HX6 := Lib.hid HX6
          have ED := Lib.hid (EC.out.trans hb4)
          obtain ⟨x52, x53⟩ := HX5.out wd hb4
          clear own6 own6' hb4 x50 x51
          go_wp2_with fail
          refine (HC3.out _).mono ?_
          rintro _ we ⟨⟨v7, rfl, own7⟩, hb5⟩
          obtain ⟨A7, c7, rfl, own7'⟩ := cut_form Q5.out own7
          obtain ⟨ad7, rfl, l7, m7, HX7⟩ := row4 own7'
          have HX7 := Lib.hid HX7
          have EE := Lib.hid (ED.out.trans hb5)
          have H6E := Lib.hid fun W (e : Ext we W) => HX6.out W (hb5.trans e)
          clear own7 own7' hb5 x52 x53
          go_wp2_with fail
          refine (HDG.out _).mono ?_
          rintro _ wf ⟨rfl, hb6⟩
          have EF := Lib.hid (EE.out.trans hb6)
          obtain ⟨a0, a1⟩ := H6E.out wf hb6
          obtain ⟨b0, b1⟩ := HX7.out wf hb6
          clear hb6
          go_wp2_with fail
          go_quiet (fail)
          go_wp2_with fail
          go_ret
          exact ⟨rfl, by have := EF.out; exact Ext.drewN this _⟩
end Go.Proofs.YtnphbkjkeipmmaaGreatDoor.runFollows
