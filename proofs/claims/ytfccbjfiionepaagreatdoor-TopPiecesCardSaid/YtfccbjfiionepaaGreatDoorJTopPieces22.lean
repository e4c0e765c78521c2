/- The way up, step by step: plain. -/
import Derived.Test.YtfccbjfiionepaaGreatDoorJTopPieces0
import Derived.Test.YtfccbjfiionepaaGreatDoorJTopPieces15
import Derived.Lib.SlicesS
import Derived.Test.YtfccbjfiionepaaGreatDoorJTopPieces21
import Derived.Test.YtfccbjfiionepaaGreatDoorJTopPieces13
import Derived.BigRegion
import Derived.Test.YtfccbjfiionepaaGreatDoorJTopPieces20
import Derived.Test.YtfccbjfiionepaaGreatDoorJTopPieces16
import Derived.Test.YtfccbjfiionepaaGreatDoorJTopPieces7
import Derived.Test.YtfccbjfiionepaaGreatDoorJTopPieces8
import Derived.Test.YtfccbjfiionepaaGreatDoorJTopPieces4
namespace Go.Proofs.YtfccbjfiionepaaGreatDoor
set_option linter.unusedVariables false

theorem byteOf_inj {a b : Int} (ha : 0 ≤ a) (ha' : a < 256) (hb : 0 ≤ b) (hb' : b < 256) (h : byteOf a = byteOf b) : a = b := by
  have h1 := toNat_byteOf a ha ha'
  have h2 := toNat_byteOf b hb hb'
  rw [h] at h1
  omega
theorem fourB_inj {a b : Int} (ha : vld a = true) (hb : vld b = true) (h : fourB a = fourB b) : a = b := by
  have ha := vld_true ha
  have hb := vld_true hb
  unfold fourB at h
  simp only [List.cons.injEq, and_true] at h
  obtain ⟨h1, h2, h3, h4⟩ := h
  have h1 := byteOf_inj (by omega) (by omega) (by omega) (by omega) h1
  have h2 := byteOf_inj (by omega) (by omega) (by omega) (by omega) h2
  have h3 := byteOf_inj (by omega) (by omega) (by omega) (by omega) h3
  have h4 := byteOf_inj (by omega) (by omega) (by omega) (by omega) h4
  omega
theorem nodeB_inj {a b c d : Int} (ha : vld a = true) (hb : vld b = true) (hc : vld c = true) (hd : vld d = true) (h : nodeB a b = nodeB c d) : a = c ∧ b = d := by
  unfold nodeB at h
  injection h with _ h
  obtain ⟨h1, h2⟩ := List.append_inj h rfl
  exact ⟨fourB_inj ha hc h1, fourB_inj hb hd h2⟩

/-- does the k-th sum of a proof stand on the left? -/
def turnL (i n k : Nat) : Bool :=
  if h : 2 ≤ n ∧ half n < n then
    (if i < half n then (if stepsN i (half n) = k then false else turnL i (half n) k)
     else (if stepsN (i - half n) (n - half n) = k then true else turnL (i - half n) (n - half n) k))
  else false
termination_by n
decreasing_by
  · exact h.2
  · have := half_pos n; omega
theorem turnL_left {i n k : Nat} (h2 : 2 ≤ n) (hn : n ≤ 4096) (hi : i < half n) : turnL i n k = if stepsN i (half n) = k then false else turnL i (half n) k := by
  rw [turnL, dif_pos ⟨h2, half_lt h2 hn⟩, if_pos hi]
theorem turnL_right {i n k : Nat} (h2 : 2 ≤ n) (hn : n ≤ 4096) (hi : ¬ i < half n) : turnL i n k = if stepsN (i - half n) (n - half n) = k then true else turnL (i - half n) (n - half n) k := by
  rw [turnL, dif_pos ⟨h2, half_lt h2 hn⟩, if_neg hi]

def stepL (t : Bool) (a b : Int) : Int := if t then nodeL b a else nodeL a b
def stepB (t : Bool) (a b : Int) : List UInt8 := if t then nodeB b a else nodeB a b
theorem stepL_eq (t : Bool) (a b : Int) : stepL t a b = sumL (stepB t a b) := by cases t <;> rfl
theorem vld_stepL (t : Bool) (a b : Int) : vld (stepL t a b) = true := by rw [stepL_eq]; exact vld_sum _
theorem stepB_inj {t : Bool} {a b c d : Int} (ha : vld a = true) (hb : vld b = true) (hc : vld c = true) (hd : vld d = true) (h : stepB t a b = stepB t c d) : a = c ∧ b = d := by
  cases t
  · exact nodeB_inj ha hb hc hd h
  · exact (nodeB_inj hb ha hd hc h).symm

/-- the k-th of numbers -/
def nthI (p : List Int) (k : Nat) : Int := p.getD k 0
theorem nthI_get {p : List Int} {k : Nat} (h : k < p.length) : p[k]? = some (nthI p k) := by unfold nthI; rw [List.getD_eq_getElem?_getD, List.getElem?_eq_getElem h]; rfl
/-- up 'm' steps from the k-th on -/
def upF (t : Nat → Bool) (p : Nat → Int) : Nat → Nat → Int → Int
  | 0, _, a => a
  | m + 1, k, a => upF t p m (k + 1) (stepL (t k) a (p k))
theorem upF_snoc (t : Nat → Bool) (p : Nat → Int) : ∀ (m k : Nat) (a : Int), upF t p (m + 1) k a = stepL (t (k + m)) (upF t p m k a) (p (k + m))
  | 0, k, a => rfl
  | m + 1, k, a => by
    show upF t p (m + 1) (k + 1) _ = _
    rw [upF_snoc t p m (k + 1)]
    show stepL (t (k + 1 + m)) (upF t p (m + 1) k a) _ = _
    rw [show k + 1 + m = k + (m + 1) by omega]
theorem upF_add (t : Nat → Bool) (p : Nat → Int) : ∀ (j m k : Nat) (a : Int), upF t p (j + m) k a = upF t p m (k + j) (upF t p j k a)
  | 0, m, k, a => by rw [Nat.zero_add]; rfl
  | j + 1, m, k, a => by
    rw [show j + 1 + m = (j + m) + 1 by omega]
    show upF t p (j + m) (k + 1) _ = _
    rw [upF_add t p j m (k + 1), show k + 1 + j = k + (j + 1) by omega]
    rfl
theorem upF_congr {t t' : Nat → Bool} {p p' : Nat → Int} : ∀ (m k : Nat) (a : Int), (∀ j, k ≤ j → j < k + m → t j = t' j ∧ p j = p' j) → upF t p m k a = upF t' p' m k a
  | 0, _, _, _ => rfl
  | m + 1, k, a, h => by
    show upF t p m (k + 1) _ = upF t' p' m (k + 1) _
    obtain ⟨h1, h2⟩ := h k (Nat.le_refl _) (by omega)
    rw [h1, h2]
    exact upF_congr m (k + 1) _ fun j hj hj' => h j (by omega) (by omega)
theorem vld_upF (t : Nat → Bool) (p : Nat → Int) : ∀ (m k : Nat) (a : Int), vld a = true → vld (upF t p m k a) = true
  | 0, _, _, h => h
  | m + 1, k, a, _ => vld_upF t p m (k + 1) _ (vld_stepL _ _ _)
theorem dropLast_getD {p : List Int} {j : Nat} (h : j + 1 < p.length) : nthI p.dropLast j = nthI p j := by
  unfold nthI
  rw [List.dropLast_eq_take, List.getD_eq_getElem?_getD, List.getD_eq_getElem?_getD, List.getElem?_take, if_pos (by omega)]
theorem getLastD_getD {p : List Int} {m : Nat} (h : p.length = m + 1) : p.getLastD 0 = nthI p m := by
  unfold nthI
  rw [List.getLastD_eq_getLast?, List.getLast?_eq_getElem?, List.getD_eq_getElem?_getD, h]; rfl
theorem upL_upF (N : Nat) : ∀ (i n : Nat) (s : Int) (p : List Int), n ≤ N → n ≤ 4096 → p.length = stepsN i n → upL i n s p = upF (turnL i n) (nthI p) (stepsN i n) 0 s := by
  induction N with
  | zero => intro i n s p h hn hp; rw [upL_one (by omega), stepsN_one i (by omega)]; rfl
  | succ N ih =>
    intro i n s p h hn hp
    by_cases h2 : 2 ≤ n
    · have h3 := half_lt h2 hn
      have h4 := half_pos n
      by_cases hi : i < half n
      · have hs := stepsN_left h2 hn hi
        have ht : turnL i n (stepsN i (half n)) = false := (turnL_left h2 hn hi).trans (if_pos rfl)
        have hc : upF (turnL i (half n)) (nthI p.dropLast) (stepsN i (half n)) 0 s = upF (turnL i n) (nthI p) (stepsN i (half n)) 0 s :=
          upF_congr _ _ _ fun j _ hj => ⟨((turnL_left h2 hn hi).trans (if_neg (by omega))).symm, dropLast_getD (by omega)⟩
        have hu := ih i (half n) s p.dropLast (by omega) (by omega) (by rw [List.length_dropLast]; omega)
        have hg := getLastD_getD (hp.trans hs)
        have hz := upF_snoc (turnL i n) (nthI p) (stepsN i (half n)) 0 s
        rw [Nat.zero_add, ht] at hz
        rw [upL_left h2 hn hi, hu, hc, hg, hs]
        exact hz.symm
      · have hs := stepsN_right h2 hn hi
        have ht : turnL i n (stepsN (i - half n) (n - half n)) = true := (turnL_right h2 hn hi).trans (if_pos rfl)
        have hc : upF (turnL (i - half n) (n - half n)) (nthI p.dropLast) (stepsN (i - half n) (n - half n)) 0 s = upF (turnL i n) (nthI p) (stepsN (i - half n) (n - half n)) 0 s :=
          upF_congr _ _ _ fun j _ hj => ⟨((turnL_right h2 hn hi).trans (if_neg (by omega))).symm, dropLast_getD (by omega)⟩
        have hu := ih (i - half n) (n - half n) s p.dropLast (by omega) (by omega) (by rw [List.length_dropLast]; omega)
        have hg := getLastD_getD (hp.trans hs)
        have hz := upF_snoc (turnL i n) (nthI p) (stepsN (i - half n) (n - half n)) 0 s
        rw [Nat.zero_add, ht] at hz
        rw [upL_right h2 hn hi, hu, hc, hg, hs]
        exact hz.symm
    · rw [upL_one h2, stepsN_one i h2]; rfl
end Go.Proofs.YtfccbjfiionepaaGreatDoor

/- witsame.Entries, whatever the entries. -/
namespace Go.Proofs.YtfccbjfiionepaaGreatDoor
open Go.RowKit
set_option linter.unusedVariables false
attribute [local go_sem ↓] Go.wp_at_zero Go.wp_at_succ

theorem ent_ext {a b : Ent} (h1 : a.time = b.time) (h2 : a.data = b.data) : a = b := by
  obtain ⟨_, _⟩ := a
  obtain ⟨_, _⟩ := b
  simp only at h1 h2
  subst h1 h2
  rfl
set_option maxRecDepth 100000 in
set_option maxHeartbeats 1000000 in
theorem Entries_not (A A' : Option Addr) (n n' c c' : Nat) (es es' : List Ent) (w : World) (hr : Rd w 2 A n c (es.flatMap Ent.cells)) (hr' : Rd w 2 A' n' c' (es'.flatMap Ent.cells)) (hm : n ≤ 9223372036854775807) (hm' : n' ≤ 9223372036854775807) (hne : es ≠ es') :
    Calls Tryz.prog 28 #[.slice A n c, .slice A' n' c'] w fun e w' => e = .returned (.bool false) ∧ Ext w w' := by
  have HX := Lib.hid hr.lenE
  have HX' := Lib.hid hr'.lenE
  have hl := hr.2.1
  have hl' := hr'.2.1
  have HNE := Lib.hid hne
  clear hne
  by_cases hnn : n = n'
  · subst hnn
    have H0 : Hid (es.take 0 = es'.take 0) := rfl
    go_enter Tryz.func28, Tryz.ntmps28
    go_wp2_with fail
    go_loopw [5] (fun x wr => ∃ j : Nat, x = .int .i64 j ∧ j ≤ n ∧ Ext w wr ∧ Hid (es.take j = es'.take j)) (fun x _ => n - (intOf x).toNat)
    case atStart => exact ⟨0, rfl, Nat.zero_le _, by (repeat (with_reducible first | exact Ext.refl _ | assumption | refine Ext.drew ?_ | refine Ext.drewN ?_ _ | refine Ext.alloc ?_ _ | refine Ext.trans ?_ (by with_reducible assumption))), H0⟩
    case round =>
      obtain ⟨j, rfl, hj, hbw, htk⟩ := hrel
      by_cases hc : j < n
      · have hgj := List.getElem?_eq_getElem (l := es) (i := j) (by rw [HX.out]; exact hc)
        have hgj' := List.getElem?_eq_getElem (l := es') (i := j) (by rw [HX'.out]; exact hc)
        obtain ⟨ad, rfl, hb, c0, c1⟩ := (hr.ext hbw).getE hgj
        obtain ⟨ad', rfl, hb', c0', c1'⟩ := (hr'.ext hbw).getE hgj'
        have hstep : es[j]'(by rw [HX.out]; exact hc) = es'[j]'(by rw [HX'.out]; exact hc) → es.take (j + 1) = es'.take (j + 1) := fun h => by
          rw [List.take_succ_eq_append_getElem (by rw [HX.out]; exact hc), List.take_succ_eq_append_getElem (by rw [HX'.out]; exact hc), htk.out, h]
        generalize es[j]'(by rw [HX.out]; exact hc) = e at *
        generalize es'[j]'(by rw [HX'.out]; exact hc) = e' at *
        obtain ⟨et, ed⟩ := e
        obtain ⟨ft, fd⟩ := e'
        simp only at c0 c1 c0' c1'
        have HST := Lib.hid hstep
        have hcN : (j : Int) < (n : Int) := by omega
        clear hgj hgj' hstep
        by_cases h1 : et = ft
        · subst h1
          by_cases h2 : ed = fd
          · subst h2
            have HT := Lib.hid (HST.out rfl)
            go_wp2_with fail
            go_quiet (fail)
            go_wp2_with fail
            go_roundw
            case rel => exact ⟨j + 1, by go_num, by omega, by (repeat (with_reducible first | exact Ext.refl _ | assumption | refine Ext.drew ?_ | refine Ext.drewN ?_ _ | refine Ext.alloc ?_ _ | refine Ext.trans ?_ (by with_reducible assumption))), HT⟩
            case measure => simp [intOf]; omega
          · have b2 := (Lib.bytes_beq_false_iff ed fd).2 h2
            clear h2
            go_wp2_with fail
            go_quiet (fail)
            go_wp2_with fail
            go_ret
            exact ⟨rfl, by (repeat (with_reducible first | exact Ext.refl _ | assumption | refine Ext.drew ?_ | refine Ext.drewN ?_ _ | refine Ext.alloc ?_ _ | refine Ext.trans ?_ (by with_reducible assumption)))⟩
        · have b1 : (et == ft) = false := beq_eq_false_iff_ne.2 h1
          clear h1
          go_wp2_with fail
          go_quiet (fail)
          go_wp2_with fail
          go_ret
          exact ⟨rfl, by (repeat (with_reducible first | exact Ext.refl _ | assumption | refine Ext.drew ?_ | refine Ext.drewN ?_ _ | refine Ext.alloc ?_ _ | refine Ext.trans ?_ (by with_reducible assumption)))⟩
      · exfalso
        obtain rfl : j = n := by omega
        refine HNE.out ?_
        have h := htk.out
        rw [List.take_of_length_le (by rw [HX.out]; exact Nat.le_refl _), List.take_of_length_le (by rw [HX'.out]; exact Nat.le_refl _)] at h
        exact h
  · have hnb : ((n : Int) == (n' : Int)) = false := beq_eq_false_iff_ne.2 (fun h => hnn (by omega))
    clear hnn
    go_enter Tryz.func28, Tryz.ntmps28
    go_wp2_with fail
    go_ret
    exact ⟨rfl, by (repeat (with_reducible first | exact Ext.refl _ | assumption | refine Ext.drew ?_ | refine Ext.drewN ?_ _ | refine Ext.alloc ?_ _ | refine Ext.trans ?_ (by with_reducible assumption)))⟩
set_option maxRecDepth 100000 in
theorem Entries_yes (A A' : Option Addr) (n c c' : Nat) (es : List Ent) (w : World) (hr : Rd w 2 A n c (es.flatMap Ent.cells)) (hr' : Rd w 2 A' n c' (es.flatMap Ent.cells)) (hm : n ≤ 9223372036854775807) :
    Calls Tryz.prog 28 #[.slice A n c, .slice A' n c'] w fun e w' => e = .returned (.bool true) ∧ Ext w w' := by
  have HX := Lib.hid hr.lenE
  have hl := hr.2.1
  have hl' := hr'.2.1
  go_enter Tryz.func28, Tryz.ntmps28
  go_wp2_with fail
  go_loopw [5] (fun x wr => ∃ j : Nat, x = .int .i64 j ∧ j ≤ n ∧ Ext w wr) (fun x _ => n - (intOf x).toNat)
  case atStart => exact ⟨0, rfl, Nat.zero_le _, by (repeat (with_reducible first | exact Ext.refl _ | assumption | refine Ext.drew ?_ | refine Ext.drewN ?_ _ | refine Ext.alloc ?_ _ | refine Ext.trans ?_ (by with_reducible assumption)))⟩
  case round =>
    obtain ⟨j, rfl, hj, hbw⟩ := hrel
    by_cases hc : j < n
    · have hgj := List.getElem?_eq_getElem (l := es) (i := j) (by rw [HX.out]; exact hc)
      obtain ⟨ad, rfl, hb, c0, c1⟩ := (hr.ext hbw).getE hgj
      obtain ⟨ad', rfl, hb', c0', c1'⟩ := (hr'.ext hbw).getE hgj
      generalize es[j]'(by rw [HX.out]; exact hc) = e at *
      have hcN : (j : Int) < (n : Int) := by omega
      go_wp2_with fail
      go_quiet (fail)
      go_wp2_with fail
      go_roundw
      case rel => exact ⟨j + 1, by go_num, by omega, by (repeat (with_reducible first | exact Ext.refl _ | assumption | refine Ext.drew ?_ | refine Ext.drewN ?_ _ | refine Ext.alloc ?_ _ | refine Ext.trans ?_ (by with_reducible assumption)))⟩
      case measure => simp [intOf]; omega
    · go_wp2_with fail
      go_ret
      exact ⟨rfl, by (repeat (with_reducible first | exact Ext.refl _ | assumption | refine Ext.drew ?_ | refine Ext.drewN ?_ _ | refine Ext.alloc ?_ _ | refine Ext.trans ?_ (by with_reducible assumption)))⟩
/-- are two lists the same? -/
noncomputable def entsB (es es' : List Ent) : Bool := @decide (es = es') (Classical.propDecidable _)
theorem Entries_any (A A' : Option Addr) (n n' c c' : Nat) (es es' : List Ent) (w : World) (hr : Rd w 2 A n c (es.flatMap Ent.cells)) (hr' : Rd w 2 A' n' c' (es'.flatMap Ent.cells)) (hm : c ≤ maxLen) (hm' : c' ≤ maxLen) :
    Calls Tryz.prog 28 #[.slice A n c, .slice A' n' c'] w fun e w' => e = .returned (.bool (entsB es es')) ∧ Ext w w' := by
  have h1 := hr.2.1
  have h2 := hr'.2.1
  unfold maxLen at hm hm'
  by_cases h : es = es'
  · subst h
    have hn : n' = n := hr'.lenE.symm.trans hr.lenE
    subst hn
    have hb : entsB es es = true := @decide_eq_true _ (Classical.propDecidable _) rfl
    rw [hb]
    exact Entries_yes A A' _ c c' es w hr hr' (by omega)
  · have hb : entsB es es' = false := by
      cases hq : entsB es es' with
      | false => rfl
      | true => exact absurd (@of_decide_eq_true _ (Classical.propDecidable _) hq) h
    rw [hb]
    exact Entries_not A A' n n' c c' es es' w hr hr' (by omega) (by omega) h
end Go.Proofs.YtfccbjfiionepaaGreatDoor

/- Two lists of one root: where they clash. The references' Clash, the program's Collide. -/
namespace Go.Proofs.YtfccbjfiionepaaGreatDoor
open Go.RowKit Go.WideShapes
set_option linter.unusedVariables false
attribute [local go_sem ↓] Go.wp_at_zero Go.wp_at_succ

/-! ### plain -/
def str0 (s : ByteArray) : ByteArray := ⟨#[0]⟩ ++ s
def topB (k : Nat) (a : List ByteArray) : List UInt8 := nodeB (ofL ((sumsD a).take k)) (ofL ((sumsD a).drop k))
def topS (k : Nat) (a : List ByteArray) : ByteArray := ⟨(topB k a).toArray⟩
def clashL (a b : List ByteArray) : ByteArray × ByteArray :=
  if h : 2 ≤ a.length ∧ half a.length < a.length then
    if topB (half a.length) a ≠ topB (half a.length) b then (topS (half a.length) a, topS (half a.length) b)
    else if a.take (half a.length) ≠ b.take (half a.length) then clashL (a.take (half a.length)) (b.take (half a.length))
    else clashL (a.drop (half a.length)) (b.drop (half a.length))
  else (str0 (a.headD ⟨#[]⟩), str0 (b.headD ⟨#[]⟩))
termination_by a.length
decreasing_by
  · rw [List.length_take]; omega
  · rw [List.length_drop]; have := half_pos a.length; omega
theorem clashL_one (x y : ByteArray) : clashL [x] [y] = (str0 x, str0 y) := by rw [clashL, dif_neg (by simp)]; rfl
theorem clashL_top {a b : List ByteArray} (h2 : 2 ≤ a.length) (hn : a.length ≤ 4096) (h : topB (half a.length) a ≠ topB (half a.length) b) : clashL a b = (topS (half a.length) a, topS (half a.length) b) := by
  rw [clashL, dif_pos ⟨h2, half_lt h2 hn⟩, if_pos h]
theorem clashL_left {a b : List ByteArray} (h2 : 2 ≤ a.length) (hn : a.length ≤ 4096) (h : topB (half a.length) a = topB (half a.length) b) (h' : a.take (half a.length) ≠ b.take (half a.length)) : clashL a b = clashL (a.take (half a.length)) (b.take (half a.length)) := by
  rw [clashL, dif_pos ⟨h2, half_lt h2 hn⟩, if_neg (not_not_intro h), if_pos h']
theorem clashL_right {a b : List ByteArray} (h2 : 2 ≤ a.length) (hn : a.length ≤ 4096) (h : topB (half a.length) a = topB (half a.length) b) (h' : a.take (half a.length) = b.take (half a.length)) : clashL a b = clashL (a.drop (half a.length)) (b.drop (half a.length)) := by
  rw [clashL, dif_pos ⟨h2, half_lt h2 hn⟩, if_neg (not_not_intro h), if_neg (not_not_intro h')]
theorem topS_ne {k : Nat} {a b : List ByteArray} (h : topB k a ≠ topB k b) : (topS k a).toList ≠ (topS k b).toList := by
  intro e
  apply h
  have h1 := congrArg ByteArray.toList (rfl : topS k a = topS k a)
  have h2 : topS k a = topS k b := by
    have := (Lib.bytes_beq_false_iff (topS k a) (topS k b))
    rcases Classical.em (topS k a = topS k b) with he | he
    · exact he
    · have h3 := this.2 he
      rw [e] at h3
      simp at h3
  have h4 := congrArg (fun s : ByteArray => s.data.toList) h2
  simpa [topS] using h4

/-! ### the references' -/
end Go.Proofs.YtfccbjfiionepaaGreatDoor

namespace Go.Proofs.YtfccbjfiionepaaGreatDoor
open Go.RowKit Go.WideShapes
set_option linter.unusedVariables false
attribute [local go_sem ↓] Go.wp_at_zero Go.wp_at_succ

theorem RTop_any (k : Nat) (a : List ByteArray) (w : World) (hl : a.length ≤ 4096) :
    Calls Tryz.prog 135 #[.int .i64 (ofL ((sumsD a).take k)), .int .i64 (ofL ((sumsD a).drop k))] w fun e w' => e = .returned (.string (topS k a)) ∧ Ext w w' :=
  RNodeBytes_any _ _ w (vld_ofL (allV_take (allV_sumsD a) k) (by rw [List.length_take, sumsD_len]; omega)) (vld_ofL (allV_drop (allV_sumsD a) k) (by rw [List.length_drop, sumsD_len]; omega))
end Go.Proofs.YtfccbjfiionepaaGreatDoor

namespace Go.Proofs.YtfccbjfiionepaaGreatDoor
open Go.RowKit Go.WideShapes
set_option linter.unusedVariables false
attribute [local go_sem ↓] Go.wp_at_zero Go.wp_at_succ

def allS (l : List ByteArray) : Bool := l.all fun s => decide (s.size ≤ 200)
theorem allS_snoc {l : List ByteArray} {k : Nat} {z : ByteArray} (hz : l[k]? = some z) : allS (l.take (k + 1)) = (allS (l.take k) && decide (z.size ≤ 200)) := by
  obtain ⟨h, rfl⟩ := List.getElem?_eq_some_iff.1 hz
  unfold allS
  rw [List.take_succ_eq_append_getElem h, List.all_append]
  simp only [List.all_cons, List.all_nil, Bool.and_true]
theorem allS_no {l : List ByteArray} {k : Nat} {z : ByteArray} (hz : l[k]? = some z) (hv : ¬ z.size ≤ 200) : allS l = false := by
  cases h : allS l
  · rfl
  · exact absurd (of_decide_eq_true (List.all_eq_true.1 h z (List.mem_of_getElem? hz))) hv
theorem dataK_allS {l : List ByteArray} (h : l.length ≤ 200) : dataK l = if allS l = true then 0 else 4 := by
  cases hs : allS l
  · rw [if_neg (by decide)]
    refine dataK_bad fun hk => ?_
    have : allS l = true := List.all_eq_true.2 fun s hs => decide_eq_true (hk.2 s hs)
    rw [hs] at this; cases this
  · rw [if_pos rfl]
    exact dataK_ok ⟨h, fun s hm => of_decide_eq_true (List.all_eq_true.1 hs s hm)⟩
def idxS (l : List ByteArray) (e : Ending) : Prop := ∃ i : Int, e = .returned (.int .i64 i) ∧ (allS l = true → i = -1) ∧ (allS l = false → 0 ≤ i)
def sumsK (l : List ByteArray) : List Int := if dataK l = 0 then sumsD l else []
end Go.Proofs.YtfccbjfiionepaaGreatDoor

namespace Go.Proofs.YtfccbjfiionepaaGreatDoor
open Go.RowKit Go.WideShapes
set_option linter.unusedVariables false
attribute [local go_sem ↓] Go.wp_at_zero Go.wp_at_succ

def okL (xs : List Int) : Prop := allV xs = true ∧ xs.length ≤ 4096
theorem ofL_pos (xs : List Int) (h : okL xs) : 0 ≤ ofL xs := (vld_true (vld_ofL h.1 h.2)).1
theorem okL_take (a : List ByteArray) (k : Nat) (hl : a.length ≤ 4096) : okL ((sumsD a).take k) := ⟨allV_take (allV_sumsD a) k, by rw [List.length_take, sumsD_len]; omega⟩
theorem okL_drop (a : List ByteArray) (k : Nat) (hl : a.length ≤ 4096) : okL ((sumsD a).drop k) := ⟨allV_drop (allV_sumsD a) k, by rw [List.length_drop, sumsD_len]; omega⟩
theorem TTop_any (k : Nat) (a : List ByteArray) (w : World) (hl : a.length ≤ 4096) :
    Calls Tryz.prog 88 #[.int .i64 (ofL ((sumsD a).take k)), .int .i64 (ofL ((sumsD a).drop k))] w fun e w' => e = .returned (.string (topS k a)) ∧ Ext w w' :=
  BytesOf_any _ _ w (vld_true (vld_ofL (allV_take (allV_sumsD a) k) (by rw [List.length_take, sumsD_len]; omega))).1 (vld_true (vld_ofL (allV_drop (allV_sumsD a) k) (by rw [List.length_drop, sumsD_len]; omega))).1

def collK (a b : List ByteArray) : Int :=
  if dataK a ≠ 0 then 4 else if dataK b ≠ 0 then 4 else if a.length ≠ b.length then 3 else if a = b then 7 else if ofL (sumsD a) ≠ ofL (sumsD b) then 5 else 0
def collV (a b : List ByteArray) : ByteArray × ByteArray := if collK a b = 0 then clashL a b else (⟨#[]⟩, ⟨#[]⟩)
theorem coll_ways (a b : List ByteArray) : (¬ dataOk a ∧ collK a b = 4) ∨ (dataOk a ∧ ¬ dataOk b ∧ collK a b = 4) ∨ (dataOk a ∧ dataOk b ∧ a.length ≠ b.length ∧ collK a b = 3) ∨ (dataOk a ∧ dataOk b ∧ a.length = b.length ∧ a = b ∧ collK a b = 7) ∨ (dataOk a ∧ dataOk b ∧ a.length = b.length ∧ a ≠ b ∧ ofL (sumsD a) ≠ ofL (sumsD b) ∧ collK a b = 5) ∨ (dataOk a ∧ dataOk b ∧ a.length = b.length ∧ a ≠ b ∧ ofL (sumsD a) = ofL (sumsD b) ∧ collK a b = 0) := by
  unfold collK
  by_cases ha : dataOk a
  · rw [dataK_ok ha, if_neg (by decide)]
    by_cases hb : dataOk b
    · rw [dataK_ok hb, if_neg (by decide)]
      by_cases hl : a.length = b.length
      · rw [if_neg (not_not_intro hl)]
        by_cases he : a = b
        · rw [if_pos he]; exact .inr (.inr (.inr (.inl ⟨ha, hb, hl, he, rfl⟩)))
        · rw [if_neg he]
          by_cases ho : ofL (sumsD a) = ofL (sumsD b)
          · rw [if_neg (not_not_intro ho)]; exact .inr (.inr (.inr (.inr (.inr ⟨ha, hb, hl, he, ho, rfl⟩))))
          · rw [if_pos ho]; exact .inr (.inr (.inr (.inr (.inl ⟨ha, hb, hl, he, ho, rfl⟩))))
      · rw [if_pos hl]; exact .inr (.inr (.inl ⟨ha, hb, hl, rfl⟩))
    · rw [dataK_bad hb, if_pos (by decide)]; exact .inr (.inl ⟨ha, hb, rfl⟩)
  · rw [dataK_bad ha, if_pos (by decide)]; exact .inl ⟨ha, rfl⟩

end Go.Proofs.YtfccbjfiionepaaGreatDoor

/- Two faces of a log: plain; and wittop.one. -/
namespace Go.Proofs.YtfccbjfiionepaaGreatDoor
open Go.RowKit Go.WideShapes
set_option linter.unusedVariables false
attribute [local go_sem ↓] Go.wp_at_zero Go.wp_at_succ

theorem entB_inj {a b : Ent} (ha : a.ok) (hb : b.ok) (h : a.bytes = b.bytes) : a = b := by
  have h1 := takeE_bytes a ⟨#[]⟩ ha
  have h2 := takeE_bytes b ⟨#[]⟩ hb
  rw [h, h2] at h1
  injection h1 with h1
  injection h1 with h1
  exact h1.symm
theorem entsB_inj : ∀ {a b : List Ent}, (∀ e ∈ a, e.ok) → (∀ e ∈ b, e.ok) → a.map Ent.bytes = b.map Ent.bytes → a = b
  | [], [], _, _, _ => rfl
  | [], y :: b, _, _, h => by cases h
  | x :: a, [], _, _, h => by cases h
  | x :: a, y :: b, ha, hb, h => by
    rw [List.map_cons, List.map_cons] at h
    injection h with h1 h2
    rw [entB_inj (ha x (by simp)) (hb y (by simp)) h1, entsB_inj (fun e he => ha e (by simp [he])) (fun e he => hb e (by simp [he])) h2]
theorem sums_bytes (es : List Ent) : sumsD (es.map Ent.bytes) = es.map Ent.leaf := by
  unfold sumsD
  rw [List.map_map]
  refine List.map_congr_left fun e _ => ?_
  simp only [Function.comp_apply, Ent.leaf]
/-! ### two texts of one sum -/
theorem str0_inj {x y : ByteArray} (h : str0 x = str0 y) : x = y := by
  have h1 := congrArg (fun s : ByteArray => s.data.toList) h
  simp only [str0, toList_cat] at h1
  have h2 := List.append_cancel_left h1
  cases x; cases y
  simp at h2
  rw [h2]
theorem sum_str0 (x : ByteArray) : sumL (str0 x).data.toList = leafL x.data.toList := by unfold str0; rw [toList_cat]; rfl
theorem sum_topS (k : Nat) (a : List ByteArray) : sumL (topS k a).data.toList = nodeL (ofL ((sumsD a).take k)) (ofL ((sumsD a).drop k)) := rfl
theorem topS_size (k : Nat) (a : List ByteArray) : (topS k a).size = 9 := rfl
theorem str0_size (x : ByteArray) : (str0 x).size = 1 + x.size := by unfold str0; rw [size_cat]; rfl
theorem ofL_sums_node {a : List ByteArray} (h2 : 2 ≤ a.length) (hn : a.length ≤ 4096) : ofL (sumsD a) = nodeL (ofL ((sumsD a).take (half a.length))) (ofL ((sumsD a).drop (half a.length))) := by
  have := ofL_node (xs := sumsD a) (by rw [sumsD_len]; exact h2) (by rw [sumsD_len]; exact hn)
  rwa [sumsD_len] at this
theorem clash_law (N : Nat) : ∀ (a b : List ByteArray), a.length ≤ N → 1 ≤ a.length → a.length ≤ 4096 → a.length = b.length → (∀ s ∈ a, s.size ≤ 200) → (∀ s ∈ b, s.size ≤ 200) → a ≠ b → ofL (sumsD a) = ofL (sumsD b) →
    (clashL a b).1 ≠ (clashL a b).2 ∧ sumL (clashL a b).1.data.toList = sumL (clashL a b).2.data.toList ∧ (clashL a b).1.size ≤ 1000 ∧ (clashL a b).2.size ≤ 1000 := by
  induction N with
  | zero => intro a b h h1; omega
  | succ N ih =>
    intro a b h h1 hn hl ha hb hne ho
    by_cases h2 : 2 ≤ a.length
    · have hk := half_lt h2 hn
      have hk0 := half_pos a.length
      have hna := ofL_sums_node h2 hn
      have hnb := ofL_sums_node (a := b) (by omega) (by omega)
      rw [← hl] at hnb
      by_cases ht : topB (half a.length) a = topB (half a.length) b
      · obtain ⟨e1, e2⟩ := nodeB_inj (vld_ofL (allV_take (allV_sumsD a) _) (by rw [List.length_take, sumsD_len]; omega)) (vld_ofL (allV_drop (allV_sumsD a) _) (by rw [List.length_drop, sumsD_len]; omega)) (vld_ofL (allV_take (allV_sumsD b) _) (by rw [List.length_take, sumsD_len]; omega)) (vld_ofL (allV_drop (allV_sumsD b) _) (by rw [List.length_drop, sumsD_len]; omega)) ht
        rw [sumsD_take, sumsD_take] at e1
        rw [sumsD_drop, sumsD_drop] at e2
        by_cases he : a.take (half a.length) = b.take (half a.length)
        · rw [clashL_right h2 hn ht he]
          refine ih _ _ (by rw [List.length_drop]; omega) (by rw [List.length_drop]; omega) (by rw [List.length_drop]; omega) (by rw [List.length_drop, List.length_drop, hl]) (fun s hs => ha s (List.mem_of_mem_drop hs)) (fun s hs => hb s (List.mem_of_mem_drop hs)) ?_ e2
          intro hd
          apply hne
          rw [← List.take_append_drop (half a.length) a, ← List.take_append_drop (half a.length) b, List.take_append_drop, List.take_append_drop] at *
          rw [← List.take_append_drop (half a.length) a, he, hd, List.take_append_drop]
        · rw [clashL_left h2 hn ht he]
          exact ih _ _ (by rw [List.length_take]; omega) (by rw [List.length_take]; omega) (by rw [List.length_take]; omega) (by rw [List.length_take, List.length_take, hl]) (fun s hs => ha s (List.mem_of_mem_take hs)) (fun s hs => hb s (List.mem_of_mem_take hs)) he e1
      · rw [clashL_top h2 hn ht]
        refine ⟨fun e => topS_ne ht (congrArg ByteArray.toList e), ?_, by rw [topS_size]; omega, by rw [topS_size]; omega⟩
        rw [sum_topS, sum_topS, ← hna, ← hnb, ho]
    · have h0 : a.length = 1 := by omega
      obtain ⟨x, rfl⟩ := List.length_eq_one_iff.1 h0
      obtain ⟨y, rfl⟩ := List.length_eq_one_iff.1 (hl ▸ h0 : b.length = 1)
      rw [clashL_one]
      have hx := ha x (by simp)
      have hy := hb y (by simp)
      refine ⟨fun e => hne (by rw [str0_inj e]), ?_, by rw [str0_size]; omega, by rw [str0_size]; omega⟩
      rw [sum_str0, sum_str0]
      have h3 : ofL [leafL x.data.toList] = ofL [leafL y.data.toList] := ho
      rwa [ofL_one, ofL_one] at h3
/-- two lists of one root clash -/
theorem two_clash {l o : List Ent} (hl : entsOk l) (ho : entsOk o) (hn : l.length = o.length) (h1 : 1 ≤ l.length) (hne : l ≠ o) (hsl : ∀ s ∈ l.map Ent.bytes, s.size ≤ 200) (hso : ∀ s ∈ o.map Ent.bytes, s.size ≤ 200) (hr : ofL (l.map Ent.leaf) = ofL (o.map Ent.leaf)) :
    collK (l.map Ent.bytes) (o.map Ent.bytes) = 0 ∧ (collV (l.map Ent.bytes) (o.map Ent.bytes)).1 ≠ (collV (l.map Ent.bytes) (o.map Ent.bytes)).2 ∧ sumL (collV (l.map Ent.bytes) (o.map Ent.bytes)).1.data.toList = sumL (collV (l.map Ent.bytes) (o.map Ent.bytes)).2.data.toList ∧ (collV (l.map Ent.bytes) (o.map Ent.bytes)).1.size ≤ 1000 ∧ (collV (l.map Ent.bytes) (o.map Ent.bytes)).2.size ≤ 1000 := by
  have hb : l.map Ent.bytes ≠ o.map Ent.bytes := fun e => hne (entsB_inj hl.2 ho.2 e)
  have hll : (l.map Ent.bytes).length = (o.map Ent.bytes).length := by rw [List.length_map, List.length_map, hn]
  have hd1 : dataOk (l.map Ent.bytes) := ⟨by rw [List.length_map]; exact hl.1, hsl⟩
  have hd2 : dataOk (o.map Ent.bytes) := ⟨by rw [List.length_map]; exact ho.1, hso⟩
  have hs : ofL (sumsD (l.map Ent.bytes)) = ofL (sumsD (o.map Ent.bytes)) := by rw [sums_bytes, sums_bytes, hr]
  have hk : collK (l.map Ent.bytes) (o.map Ent.bytes) = 0 := by
    unfold collK
    rw [dataK_ok hd1, dataK_ok hd2, if_neg (by decide), if_neg (by decide), if_neg (not_not_intro hll), if_neg hb, if_neg (not_not_intro hs)]
  have hv : collV (l.map Ent.bytes) (o.map Ent.bytes) = clashL (l.map Ent.bytes) (o.map Ent.bytes) := if_pos hk
  rw [hv]
  exact ⟨hk, clash_law (l.map Ent.bytes).length _ _ (Nat.le_refl _) (by rw [List.length_map]; exact h1) (by have := hd1.1; omega) hll hsl hso hb hs⟩

/-! ### the closed fact -/
theorem half2 : half 2 = 1 := by decide
theorem one_way : wayL [5, 6] 1 = [5] := by
  rw [wayL, dif_pos (by rw [show ([5, 6] : List Int).length = 2 from rfl, half2]; decide)]
  show (if 1 < half 2 then _ else wayL (List.drop (half 2) [5, 6]) (1 - half 2) ++ [ofL (List.take (half 2) [5, 6])]) = _
  rw [half2, if_neg (by decide)]
  show wayL [6] 0 ++ [ofL [5]] = [5]
  rw [ofL_one, wayL, dif_neg (by decide)]
  rfl
theorem one_leafs : leafsOk [5, 6] := ⟨by decide, by decide⟩
theorem one_pm : pmK [5, 6] 1 2 = 0 ∧ pmV [5, 6] 1 2 = [5] := by
  have h := pmK_ok (i := 1) (m := 2) one_leafs ⟨by decide, by decide, by decide⟩
  exact ⟨h, by unfold pmV; rw [if_pos h]; exact one_way⟩
theorem one_steps : stepsN 1 2 = 1 := by
  rw [stepsN, dif_pos (by rw [half2]; decide), half2, if_neg (by decide)]
  show stepsN 0 1 + 1 = 1
  rw [stepsN, dif_neg (by decide)]
theorem one_check : pcheck (nodeL 5 6) 2 1 6 [5] = 0 := by
  refine pcheck_ok ⟨by decide, by decide, by decide⟩ ⟨vld_node 5 6, by decide, by decide⟩ (by show 1 = stepsN 1 2; rw [one_steps]) ?_
  show upL 1 2 6 [5] = nodeL 5 6
  rw [upL, dif_pos (by rw [half2]; decide), half2, if_neg (by decide)]
  show nodeL ([5].getLastD 0) (upL 0 1 6 ([5] : List Int).dropLast) = nodeL 5 6
  rw [upL, dif_neg (by decide)]
  rfl
theorem two_rd (w : World) : Rd (w.alloc (.cells #[.int .i64 5, .int .i64 6] 3)) 1 (some ⟨w.heap.size, 0, none⟩) 2 2 (([5, 6] : List Int).map (Value.int .i64)) :=
  ⟨rfl, Nat.le_refl _, fun _ => ⟨_, rfl, by simp, news_new w 3 _ _ rfl⟩⟩
set_option maxRecDepth 100000 in
set_option maxHeartbeats 1000000 in
theorem one_any (w : World) : Calls Tryz.prog 6 #[] w fun e w' => e = .returned (.bool true) ∧ Ext w w' := by
  have HPM : Hid (∀ W, Calls Tryz.prog 18 #[.slice (some ⟨W.heap.size, 0, none⟩) 2 2, .int .i64 1, .int .i64 2] (W.alloc (.cells #[.int .i64 5, .int .i64 6] 3)) fun e w' => (∃ A c, e = .returned (.tuple #[.slice (some A) 1 c, .nilIface]) ∧ c ≤ maxLen ∧ Rd w' 1 (some A) 1 c ([5].map (Value.int .i64)) ∧ w'.cell? (A.add 0) = some (.int .i64 5)) ∧ Ext W w') := Lib.hid fun W => by
    have h := PMake_any (some ⟨W.heap.size, 0, none⟩) 2 2 [5, 6] 1 2 (W.alloc (.cells #[.int .i64 5, .int .i64 6] 3)) (two_rd W) (by simp [maxLen])
    rw [one_pm.1, one_pm.2] at h
    refine h.mono fun e w' hh => ?_
    obtain ⟨⟨v, h1, h2⟩, h3⟩ := hh
    obtain ⟨A, c, hv, hc, hr⟩ := h2.rd
    obtain ⟨ad, hA, _, hcell⟩ := hr.getI (j := 0) (z := 5) rfl
    subst hA
    subst hv
    exact ⟨⟨ad, c, h1, hc, hr, hcell⟩, ((Ext.refl W).alloc _).trans h3⟩
  have HPC : Hid (∀ W A c, Rd W 1 (some A) 1 c ([5].map (Value.int .i64)) → c ≤ maxLen → Calls Tryz.prog 34 #[.int .i64 (nodeL 5 6), .int .i64 2, .int .i64 1, .int .i64 6, .slice (some A) 1 c] W fun e w' => e = .returned .nilIface ∧ Ext W w') := Lib.hid fun W A c hr hc => by
    have h := PCheck_any (nodeL 5 6) 2 1 6 (some A) 1 c [5] W hr hc
    rw [one_check] at h
    exact h
  have HN := Lib.hid fun W => Node_ok 5 6 W (by decide) (by decide)
  obtain ⟨nd, hnd⟩ : ∃ x, nodeL 5 6 = x := ⟨_, rfl⟩
  rw [hnd] at HPC HN
  clear hnd
  go_enter Tryz.func6, Tryz.ntmps6
  go_wp2_with fail
  refine (HN.out _).mono ?_
  rintro _ w1 ⟨rfl, hb1⟩
  go_wp2_with fail
  refine (HPM.out w1).mono ?_
  rintro _ w2 ⟨⟨A, c, rfl, hc, hr, hcell⟩, hb2⟩
  have HR := Lib.hid hr
  have hcl : w2.cell? A = some (.int .i64 5) := by rw [add_zero'] at hcell; exact hcell
  have h1c : 1 ≤ c := hr.2.1
  clear hr
  go_wp2_with fail
  refine (HPC.out _ A c HR.out hc).mono ?_
  rintro _ w3 ⟨rfl, hb3⟩
  go_wp2_with fail
  go_ret
  exact ⟨rfl, (hb1.trans hb2).trans hb3⟩
end Go.Proofs.YtfccbjfiionepaaGreatDoor

namespace Go.Proofs.YtfccbjfiionepaaGreatDoor
open Go.RowKit Go.WideShapes
set_option linter.unusedVariables false
attribute [local go_sem ↓] Go.wp_at_zero Go.wp_at_succ

/-- all sums of all levels, as they lie -/
def RowsAt (w : World) (gs : Nat) (n : Nat) (xs : List Int) : Prop := gs < w.heap.size ∧ ∀ k, k < 4 → ∃ A c, w.cell? ⟨gs, k, none⟩ = some (.slice A (n / 4 ^ k) c) ∧ c ≤ maxLen ∧ Rd w 1 A (n / 4 ^ k) c ((rowT xs (n / 4 ^ k) k).map (Value.int .i64))
theorem RowsAt.ext {w w' : World} {gs n : Nat} {xs : List Int} (h : RowsAt w gs n xs) (e : Ext w w') : RowsAt w' gs n xs :=
  ⟨e.lt h.1, fun k hk => by
    obtain ⟨A, c, h1, h2, h3⟩ := h.2 k hk
    exact ⟨A, c, (e.cell (p := ⟨gs, k, none⟩) h.1).trans h1, h2, h3.ext e⟩⟩
/-- one sum -/
theorem RowsAt.get {w : World} {gs n : Nat} {xs : List Int} (h : RowsAt w gs n xs) {k p : Nat} (hk : k < 4) (hp : p < n / 4 ^ k) :
    ∃ ad c, w.cell? ⟨gs, k, none⟩ = some (.slice (some ad) (n / 4 ^ k) c) ∧ c ≤ maxLen ∧ n / 4 ^ k ≤ c ∧ w.cell? (ad.add p) = some (.int .i64 (ofL (seg xs (p * 4 ^ k) (4 ^ k)))) := by
  obtain ⟨A, c, h1, h2, h3⟩ := h.2 k hk
  obtain ⟨ad, rfl, _, h4⟩ := h3.getI (rowT_get xs hp)
  exact ⟨ad, c, h1, h2, h3.2.1, h4⟩

theorem RowsAt.at_ {w : World} {gs n : Nat} {xs : List Int} (h : RowsAt w gs n xs) {k u f : Nat} (hk : k < 4) (hu : 4 ^ k = u) (hf : f % u = 0) (hfu : f + u ≤ n) :
    ∃ ad c q, w.cell? ⟨gs, k, none⟩ = some (.slice (some ad) q c) ∧ c ≤ maxLen ∧ q ≤ c ∧ f / u < q ∧ w.cell? (ad.add (f / u)) = some (.int .i64 (ofL (seg xs f u))) := by
  have h1 : 1 ≤ u := by rw [← hu]; exact Nat.one_le_pow _ _ (by omega)
  have hd : f / u * u = f := Nat.div_mul_cancel (Nat.dvd_of_mod_eq_zero hf)
  have hp : f / u < n / u := by
    rw [Nat.div_lt_iff_lt_mul h1, Nat.mul_comm]
    have := Nat.div_add_mod n u
    have := Nat.mod_lt n h1
    have h3 : f / u + 1 ≤ n / u := by
      rw [Nat.le_div_iff_mul_le h1, Nat.add_mul, hd]; omega
    have h4 := Nat.mul_le_mul_left u h3
    rw [Nat.mul_add, Nat.mul_comm u (f / u), hd] at h4
    omega
  subst hu
  obtain ⟨ad, c, h2, h3, h4, h5⟩ := h.get hk hp
  rw [hd] at h5
  exact ⟨ad, c, _, h2, h3, h4, hp, h5⟩

set_option maxRecDepth 100000 in
set_option maxHeartbeats 4000000 in
theorem troot_any (gs n : Nat) (xs : List Int) (hn : n ≤ 200) (hx : xs.length = n) (hv : allV xs = true) (N : Nat) : ∀ (f s : Nat) (w : World), s ≤ N → 1 ≤ s → f + s ≤ n → RowsAt w gs n xs →
    Calls Tryz.prog 43 #[.slice (some ⟨gs, 0, none⟩) 4 4, .int .i64 f, .int .i64 s] w fun e w' => e = .returned (.int .i64 (ofL (seg xs f s))) ∧ Ext w w' := by
  induction N with
  | zero => intro f s w h h1; omega
  | succ N ih =>
    intro f s w hN h1 hf hR
    have IH := Lib.hid ih
    have HR := Lib.hid hR
    have HX := Lib.hid hx
    clear ih hR hx
    have i1 : (s : Int) ≤ 200 := by omega
    have i2 : (f : Int) ≤ 200 := by omega
    have i3 : 1 ≤ (s : Int) := by omega
    have i4 : ((s : Int) == 0) = false := by simp; omega
    go_enter Tryz.func43, Tryz.ntmps43
    go_wp2_with fail
    go_loop [7, 8] (fun l u => (l = .int .i64 0 ∧ u = .int .i64 1 ∧ 1 ≤ s ∧ Hid (f % 1 = 0)) ∨ (l = .int .i64 1 ∧ u = .int .i64 4 ∧ 4 ≤ s ∧ Hid (f % 4 = 0)) ∨ (l = .int .i64 2 ∧ u = .int .i64 16 ∧ 16 ≤ s ∧ Hid (f % 16 = 0)) ∨ (l = .int .i64 3 ∧ u = .int .i64 64 ∧ 64 ≤ s ∧ Hid (f % 64 = 0))) (fun l _ => 3 - (intOf l).toNat)
    case atStart => exact .inl ⟨rfl, rfl, h1, by show _ = _; omega⟩
    case round =>
      rcases hrel with ⟨rfl, rfl, hu, HF⟩ | ⟨rfl, rfl, hu, HF⟩ | ⟨rfl, rfl, hu, HF⟩ | ⟨rfl, rfl, hu, HF⟩
      · by_cases hb : 4 ≤ s
        · by_cases hd : f % 4 = 0
          ·
            have d1 : ((f : Int) % 4 == 0) = true := by simp; omega
            have d2 : 4 ≤ (s : Int) := by omega
            have HD := Lib.hid hd
            clear hd
            go_wp2_with fail
            go_round
            case rel => exact .inr (.inl ⟨rfl, rfl, hb, HD⟩)
            case measure => simp [intOf]
          · have d1 : ((f : Int) % 4 == 0) = false := by simp; omega
            have d2 : 4 ≤ (s : Int) := by omega
            clear hd
            by_cases he : s = 1
            · subst he
              obtain ⟨ad, c, q, c1, c2, c3, c4, c5⟩ := HR.out.at_ (k := 0) (u := 1) (f := f) (by omega) (by rfl) HF.out hf
              simp only [Nat.div_one] at c4 c5
              have k1 : (f : Int) < (q : Int) := by omega
              have k4 : IntKind.i64.wrap (f : Int) = (f : Int) := IntWalk.i64_in _ (by omega)
              unfold maxLen at c2
              go_wp2_with fail
              go_quiet (fail)
              go_wp2_with fail
              go_ret
              exact ⟨rfl, by (repeat (with_reducible first | exact Ext.refl _ | assumption | refine Ext.drew ?_ | refine Ext.drewN ?_ _ | refine Ext.alloc ?_ _ | refine Ext.trans ?_ (by with_reducible assumption)))⟩
            · have he1 : ((s : Int) == 1) = false := by simp; omega
              have hh := half_lt (n := s) (by omega) (by omega)
              have hp := half_pos s
              have HS := Lib.hid (seg_split (xs := xs) (f := f) (s := s) (by rw [HX.out]; omega) (by omega) (by omega))
              have v1 := (vld_true (vld_ofL (allV_seg hv f (half s)) (by rw [seg_len (by rw [HX.out]; omega)]; omega))).1
              have v2 := (vld_true (vld_ofL (allV_seg hv (f + half s) (s - half s)) (by rw [seg_len (by rw [HX.out]; omega)]; omega))).1
              have N1 : Hid ((f : Int) + ((half s : Nat) : Int) = ((f + half s : Nat) : Int)) := by show _ = _; omega
              have N2 : Hid ((s : Int) - ((half s : Nat) : Int) = ((s - half s : Nat) : Int)) := by show _ = _; omega
              clear he
              go_wp2_with fail
              refine (Half_any _ _ (by omega) (by omega)).mono ?_
              rintro e w' ⟨rfl, rfl⟩
              rw [Int.toNat_natCast]
              go_wp2_with fail
              refine (IH.out f (half s) _ (by omega) (by omega) (by omega) HR.out).mono ?_
              rintro e w1 ⟨rfl, hb1⟩
              go_wp2_with fail
              rw [N1.out, N2.out]
              refine (IH.out (f + half s) (s - half s) _ (by omega) (by omega) (by omega) (HR.out.ext hb1)).mono ?_
              rintro e w2 ⟨rfl, hb2⟩
              go_wp2_with fail
              refine (NodeOf_any _ _ _ v1 v2).mono ?_
              rintro e w3 ⟨rfl, hb3⟩
              go_wp2_with fail
              go_ret
              exact ⟨ret_int HS.out.symm, by (repeat (with_reducible first | exact Ext.refl _ | assumption | refine Ext.drew ?_ | refine Ext.drewN ?_ _ | refine Ext.alloc ?_ _ | refine Ext.trans ?_ (by with_reducible assumption)))⟩
        · have d2 : (s : Int) < 4 := by omega
          clear hb
          by_cases he : s = 1
          · subst he
            obtain ⟨ad, c, q, c1, c2, c3, c4, c5⟩ := HR.out.at_ (k := 0) (u := 1) (f := f) (by omega) (by rfl) HF.out hf
            simp only [Nat.div_one] at c4 c5
            have k1 : (f : Int) < (q : Int) := by omega
            have k4 : IntKind.i64.wrap (f : Int) = (f : Int) := IntWalk.i64_in _ (by omega)
            unfold maxLen at c2
            go_wp2_with fail
            go_quiet (fail)
            go_wp2_with fail
            go_ret
            exact ⟨rfl, by (repeat (with_reducible first | exact Ext.refl _ | assumption | refine Ext.drew ?_ | refine Ext.drewN ?_ _ | refine Ext.alloc ?_ _ | refine Ext.trans ?_ (by with_reducible assumption)))⟩
          · have he1 : ((s : Int) == 1) = false := by simp; omega
            have hh := half_lt (n := s) (by omega) (by omega)
            have hp := half_pos s
            have HS := Lib.hid (seg_split (xs := xs) (f := f) (s := s) (by rw [HX.out]; omega) (by omega) (by omega))
            have v1 := (vld_true (vld_ofL (allV_seg hv f (half s)) (by rw [seg_len (by rw [HX.out]; omega)]; omega))).1
            have v2 := (vld_true (vld_ofL (allV_seg hv (f + half s) (s - half s)) (by rw [seg_len (by rw [HX.out]; omega)]; omega))).1
            have N1 : Hid ((f : Int) + ((half s : Nat) : Int) = ((f + half s : Nat) : Int)) := by show _ = _; omega
            have N2 : Hid ((s : Int) - ((half s : Nat) : Int) = ((s - half s : Nat) : Int)) := by show _ = _; omega
            clear he
            go_wp2_with fail
            refine (Half_any _ _ (by omega) (by omega)).mono ?_
            rintro e w' ⟨rfl, rfl⟩
            rw [Int.toNat_natCast]
            go_wp2_with fail
            refine (IH.out f (half s) _ (by omega) (by omega) (by omega) HR.out).mono ?_
            rintro e w1 ⟨rfl, hb1⟩
            go_wp2_with fail
            rw [N1.out, N2.out]
            refine (IH.out (f + half s) (s - half s) _ (by omega) (by omega) (by omega) (HR.out.ext hb1)).mono ?_
            rintro e w2 ⟨rfl, hb2⟩
            go_wp2_with fail
            refine (NodeOf_any _ _ _ v1 v2).mono ?_
            rintro e w3 ⟨rfl, hb3⟩
            go_wp2_with fail
            go_ret
            exact ⟨ret_int HS.out.symm, by (repeat (with_reducible first | exact Ext.refl _ | assumption | refine Ext.drew ?_ | refine Ext.drewN ?_ _ | refine Ext.alloc ?_ _ | refine Ext.trans ?_ (by with_reducible assumption)))⟩
      · by_cases hb : 16 ≤ s
        · by_cases hd : f % 16 = 0
          ·
            have d1 : ((f : Int) % 16 == 0) = true := by simp; omega
            have d2 : 16 ≤ (s : Int) := by omega
            have HD := Lib.hid hd
            clear hd
            go_wp2_with fail
            go_round
            case rel => exact .inr (.inr (.inl ⟨rfl, rfl, hb, HD⟩))
            case measure => simp [intOf]
          · have d1 : ((f : Int) % 16 == 0) = false := by simp; omega
            have d2 : 16 ≤ (s : Int) := by omega
            clear hd
            by_cases he : s = 4
            · subst he
              obtain ⟨ad, c, q, c1, c2, c3, c4, c5⟩ := HR.out.at_ (k := 1) (u := 4) (f := f) (by omega) (by rfl) HF.out hf
              have k1 : (f : Int) / 4 < (q : Int) := by omega
              have k2 : 0 ≤ (f : Int) / 4 := by omega
              have k3 : ((f : Int) / 4).toNat = f / 4 := by omega
              have k4 : IntKind.i64.wrap ((f : Int) / 4) = (f : Int) / 4 := IntWalk.i64_in _ (by omega)
              unfold maxLen at c2
              go_wp2_with fail
              go_quiet (fail)
              go_wp2_with fail
              go_ret
              exact ⟨rfl, by (repeat (with_reducible first | exact Ext.refl _ | assumption | refine Ext.drew ?_ | refine Ext.drewN ?_ _ | refine Ext.alloc ?_ _ | refine Ext.trans ?_ (by with_reducible assumption)))⟩
            · have he1 : ((s : Int) == 4) = false := by simp; omega
              have hh := half_lt (n := s) (by omega) (by omega)
              have hp := half_pos s
              have HS := Lib.hid (seg_split (xs := xs) (f := f) (s := s) (by rw [HX.out]; omega) (by omega) (by omega))
              have v1 := (vld_true (vld_ofL (allV_seg hv f (half s)) (by rw [seg_len (by rw [HX.out]; omega)]; omega))).1
              have v2 := (vld_true (vld_ofL (allV_seg hv (f + half s) (s - half s)) (by rw [seg_len (by rw [HX.out]; omega)]; omega))).1
              have N1 : Hid ((f : Int) + ((half s : Nat) : Int) = ((f + half s : Nat) : Int)) := by show _ = _; omega
              have N2 : Hid ((s : Int) - ((half s : Nat) : Int) = ((s - half s : Nat) : Int)) := by show _ = _; omega
              clear he
              go_wp2_with fail
              refine (Half_any _ _ (by omega) (by omega)).mono ?_
              rintro e w' ⟨rfl, rfl⟩
              rw [Int.toNat_natCast]
              go_wp2_with fail
              refine (IH.out f (half s) _ (by omega) (by omega) (by omega) HR.out).mono ?_
              rintro e w1 ⟨rfl, hb1⟩
              go_wp2_with fail
              rw [N1.out, N2.out]
              refine (IH.out (f + half s) (s - half s) _ (by omega) (by omega) (by omega) (HR.out.ext hb1)).mono ?_
              rintro e w2 ⟨rfl, hb2⟩
              go_wp2_with fail
              refine (NodeOf_any _ _ _ v1 v2).mono ?_
              rintro e w3 ⟨rfl, hb3⟩
              go_wp2_with fail
              go_ret
              exact ⟨ret_int HS.out.symm, by (repeat (with_reducible first | exact Ext.refl _ | assumption | refine Ext.drew ?_ | refine Ext.drewN ?_ _ | refine Ext.alloc ?_ _ | refine Ext.trans ?_ (by with_reducible assumption)))⟩
        · have d2 : (s : Int) < 16 := by omega
          clear hb
          by_cases he : s = 4
          · subst he
            obtain ⟨ad, c, q, c1, c2, c3, c4, c5⟩ := HR.out.at_ (k := 1) (u := 4) (f := f) (by omega) (by rfl) HF.out hf
            have k1 : (f : Int) / 4 < (q : Int) := by omega
            have k2 : 0 ≤ (f : Int) / 4 := by omega
            have k3 : ((f : Int) / 4).toNat = f / 4 := by omega
            have k4 : IntKind.i64.wrap ((f : Int) / 4) = (f : Int) / 4 := IntWalk.i64_in _ (by omega)
            unfold maxLen at c2
            go_wp2_with fail
            go_quiet (fail)
            go_wp2_with fail
            go_ret
            exact ⟨rfl, by (repeat (with_reducible first | exact Ext.refl _ | assumption | refine Ext.drew ?_ | refine Ext.drewN ?_ _ | refine Ext.alloc ?_ _ | refine Ext.trans ?_ (by with_reducible assumption)))⟩
          · have he1 : ((s : Int) == 4) = false := by simp; omega
            have hh := half_lt (n := s) (by omega) (by omega)
            have hp := half_pos s
            have HS := Lib.hid (seg_split (xs := xs) (f := f) (s := s) (by rw [HX.out]; omega) (by omega) (by omega))
            have v1 := (vld_true (vld_ofL (allV_seg hv f (half s)) (by rw [seg_len (by rw [HX.out]; omega)]; omega))).1
            have v2 := (vld_true (vld_ofL (allV_seg hv (f + half s) (s - half s)) (by rw [seg_len (by rw [HX.out]; omega)]; omega))).1
            have N1 : Hid ((f : Int) + ((half s : Nat) : Int) = ((f + half s : Nat) : Int)) := by show _ = _; omega
            have N2 : Hid ((s : Int) - ((half s : Nat) : Int) = ((s - half s : Nat) : Int)) := by show _ = _; omega
            clear he
            go_wp2_with fail
            refine (Half_any _ _ (by omega) (by omega)).mono ?_
            rintro e w' ⟨rfl, rfl⟩
            rw [Int.toNat_natCast]
            go_wp2_with fail
            refine (IH.out f (half s) _ (by omega) (by omega) (by omega) HR.out).mono ?_
            rintro e w1 ⟨rfl, hb1⟩
            go_wp2_with fail
            rw [N1.out, N2.out]
            refine (IH.out (f + half s) (s - half s) _ (by omega) (by omega) (by omega) (HR.out.ext hb1)).mono ?_
            rintro e w2 ⟨rfl, hb2⟩
            go_wp2_with fail
            refine (NodeOf_any _ _ _ v1 v2).mono ?_
            rintro e w3 ⟨rfl, hb3⟩
            go_wp2_with fail
            go_ret
            exact ⟨ret_int HS.out.symm, by (repeat (with_reducible first | exact Ext.refl _ | assumption | refine Ext.drew ?_ | refine Ext.drewN ?_ _ | refine Ext.alloc ?_ _ | refine Ext.trans ?_ (by with_reducible assumption)))⟩
      · by_cases hb : 64 ≤ s
        · by_cases hd : f % 64 = 0
          ·
            have d1 : ((f : Int) % 64 == 0) = true := by simp; omega
            have d2 : 64 ≤ (s : Int) := by omega
            have HD := Lib.hid hd
            clear hd
            go_wp2_with fail
            go_round
            case rel => exact .inr (.inr (.inr ⟨rfl, rfl, hb, HD⟩))
            case measure => simp [intOf]
          · have d1 : ((f : Int) % 64 == 0) = false := by simp; omega
            have d2 : 64 ≤ (s : Int) := by omega
            clear hd
            by_cases he : s = 16
            · subst he
              obtain ⟨ad, c, q, c1, c2, c3, c4, c5⟩ := HR.out.at_ (k := 2) (u := 16) (f := f) (by omega) (by rfl) HF.out hf
              have k1 : (f : Int) / 16 < (q : Int) := by omega
              have k2 : 0 ≤ (f : Int) / 16 := by omega
              have k3 : ((f : Int) / 16).toNat = f / 16 := by omega
              have k4 : IntKind.i64.wrap ((f : Int) / 16) = (f : Int) / 16 := IntWalk.i64_in _ (by omega)
              unfold maxLen at c2
              go_wp2_with fail
              go_quiet (fail)
              go_wp2_with fail
              go_ret
              exact ⟨rfl, by (repeat (with_reducible first | exact Ext.refl _ | assumption | refine Ext.drew ?_ | refine Ext.drewN ?_ _ | refine Ext.alloc ?_ _ | refine Ext.trans ?_ (by with_reducible assumption)))⟩
            · have he1 : ((s : Int) == 16) = false := by simp; omega
              have hh := half_lt (n := s) (by omega) (by omega)
              have hp := half_pos s
              have HS := Lib.hid (seg_split (xs := xs) (f := f) (s := s) (by rw [HX.out]; omega) (by omega) (by omega))
              have v1 := (vld_true (vld_ofL (allV_seg hv f (half s)) (by rw [seg_len (by rw [HX.out]; omega)]; omega))).1
              have v2 := (vld_true (vld_ofL (allV_seg hv (f + half s) (s - half s)) (by rw [seg_len (by rw [HX.out]; omega)]; omega))).1
              have N1 : Hid ((f : Int) + ((half s : Nat) : Int) = ((f + half s : Nat) : Int)) := by show _ = _; omega
              have N2 : Hid ((s : Int) - ((half s : Nat) : Int) = ((s - half s : Nat) : Int)) := by show _ = _; omega
              clear he
              go_wp2_with fail
              refine (Half_any _ _ (by omega) (by omega)).mono ?_
              rintro e w' ⟨rfl, rfl⟩
              rw [Int.toNat_natCast]
              go_wp2_with fail
              refine (IH.out f (half s) _ (by omega) (by omega) (by omega) HR.out).mono ?_
              rintro e w1 ⟨rfl, hb1⟩
              go_wp2_with fail
              rw [N1.out, N2.out]
              refine (IH.out (f + half s) (s - half s) _ (by omega) (by omega) (by omega) (HR.out.ext hb1)).mono ?_
              rintro e w2 ⟨rfl, hb2⟩
              go_wp2_with fail
              refine (NodeOf_any _ _ _ v1 v2).mono ?_
              rintro e w3 ⟨rfl, hb3⟩
              go_wp2_with fail
              go_ret
              exact ⟨ret_int HS.out.symm, by (repeat (with_reducible first | exact Ext.refl _ | assumption | refine Ext.drew ?_ | refine Ext.drewN ?_ _ | refine Ext.alloc ?_ _ | refine Ext.trans ?_ (by with_reducible assumption)))⟩
        · have d2 : (s : Int) < 64 := by omega
          clear hb
          by_cases he : s = 16
          · subst he
            obtain ⟨ad, c, q, c1, c2, c3, c4, c5⟩ := HR.out.at_ (k := 2) (u := 16) (f := f) (by omega) (by rfl) HF.out hf
            have k1 : (f : Int) / 16 < (q : Int) := by omega
            have k2 : 0 ≤ (f : Int) / 16 := by omega
            have k3 : ((f : Int) / 16).toNat = f / 16 := by omega
            have k4 : IntKind.i64.wrap ((f : Int) / 16) = (f : Int) / 16 := IntWalk.i64_in _ (by omega)
            unfold maxLen at c2
            go_wp2_with fail
            go_quiet (fail)
            go_wp2_with fail
            go_ret
            exact ⟨rfl, by (repeat (with_reducible first | exact Ext.refl _ | assumption | refine Ext.drew ?_ | refine Ext.drewN ?_ _ | refine Ext.alloc ?_ _ | refine Ext.trans ?_ (by with_reducible assumption)))⟩
          · have he1 : ((s : Int) == 16) = false := by simp; omega
            have hh := half_lt (n := s) (by omega) (by omega)
            have hp := half_pos s
            have HS := Lib.hid (seg_split (xs := xs) (f := f) (s := s) (by rw [HX.out]; omega) (by omega) (by omega))
            have v1 := (vld_true (vld_ofL (allV_seg hv f (half s)) (by rw [seg_len (by rw [HX.out]; omega)]; omega))).1
            have v2 := (vld_true (vld_ofL (allV_seg hv (f + half s) (s - half s)) (by rw [seg_len (by rw [HX.out]; omega)]; omega))).1
            have N1 : Hid ((f : Int) + ((half s : Nat) : Int) = ((f + half s : Nat) : Int)) := by show _ = _; omega
            have N2 : Hid ((s : Int) - ((half s : Nat) : Int) = ((s - half s : Nat) : Int)) := by show _ = _; omega
            clear he
            go_wp2_with fail
            refine (Half_any _ _ (by omega) (by omega)).mono ?_
            rintro e w' ⟨rfl, rfl⟩
            rw [Int.toNat_natCast]
            go_wp2_with fail
            refine (IH.out f (half s) _ (by omega) (by omega) (by omega) HR.out).mono ?_
            rintro e w1 ⟨rfl, hb1⟩
            go_wp2_with fail
            rw [N1.out, N2.out]
            refine (IH.out (f + half s) (s - half s) _ (by omega) (by omega) (by omega) (HR.out.ext hb1)).mono ?_
            rintro e w2 ⟨rfl, hb2⟩
            go_wp2_with fail
            refine (NodeOf_any _ _ _ v1 v2).mono ?_
            rintro e w3 ⟨rfl, hb3⟩
            go_wp2_with fail
            go_ret
            exact ⟨ret_int HS.out.symm, by (repeat (with_reducible first | exact Ext.refl _ | assumption | refine Ext.drew ?_ | refine Ext.drewN ?_ _ | refine Ext.alloc ?_ _ | refine Ext.trans ?_ (by with_reducible assumption)))⟩
      · by_cases hb : 256 ≤ s
        · have d2 : 256 ≤ (s : Int) := by omega
          by_cases hd : f % 256 = 0
          · have d1 : ((f : Int) % 256 == 0) = true := by simp; omega
            clear hd
            by_cases he : s = 64
            · subst he
              obtain ⟨ad, c, q, c1, c2, c3, c4, c5⟩ := HR.out.at_ (k := 3) (u := 64) (f := f) (by omega) (by rfl) HF.out hf
              have k1 : (f : Int) / 64 < (q : Int) := by omega
              have k2 : 0 ≤ (f : Int) / 64 := by omega
              have k3 : ((f : Int) / 64).toNat = f / 64 := by omega
              have k4 : IntKind.i64.wrap ((f : Int) / 64) = (f : Int) / 64 := IntWalk.i64_in _ (by omega)
              unfold maxLen at c2
              go_wp2_with fail
              go_quiet (fail)
              go_wp2_with fail
              go_ret
              exact ⟨rfl, by (repeat (with_reducible first | exact Ext.refl _ | assumption | refine Ext.drew ?_ | refine Ext.drewN ?_ _ | refine Ext.alloc ?_ _ | refine Ext.trans ?_ (by with_reducible assumption)))⟩
            · have he1 : ((s : Int) == 64) = false := by simp; omega
              have hh := half_lt (n := s) (by omega) (by omega)
              have hp := half_pos s
              have HS := Lib.hid (seg_split (xs := xs) (f := f) (s := s) (by rw [HX.out]; omega) (by omega) (by omega))
              have v1 := (vld_true (vld_ofL (allV_seg hv f (half s)) (by rw [seg_len (by rw [HX.out]; omega)]; omega))).1
              have v2 := (vld_true (vld_ofL (allV_seg hv (f + half s) (s - half s)) (by rw [seg_len (by rw [HX.out]; omega)]; omega))).1
              have N1 : Hid ((f : Int) + ((half s : Nat) : Int) = ((f + half s : Nat) : Int)) := by show _ = _; omega
              have N2 : Hid ((s : Int) - ((half s : Nat) : Int) = ((s - half s : Nat) : Int)) := by show _ = _; omega
              clear he
              go_wp2_with fail
              refine (Half_any _ _ (by omega) (by omega)).mono ?_
              rintro e w' ⟨rfl, rfl⟩
              rw [Int.toNat_natCast]
              go_wp2_with fail
              refine (IH.out f (half s) _ (by omega) (by omega) (by omega) HR.out).mono ?_
              rintro e w1 ⟨rfl, hb1⟩
              go_wp2_with fail
              rw [N1.out, N2.out]
              refine (IH.out (f + half s) (s - half s) _ (by omega) (by omega) (by omega) (HR.out.ext hb1)).mono ?_
              rintro e w2 ⟨rfl, hb2⟩
              go_wp2_with fail
              refine (NodeOf_any _ _ _ v1 v2).mono ?_
              rintro e w3 ⟨rfl, hb3⟩
              go_wp2_with fail
              go_ret
              exact ⟨ret_int HS.out.symm, by (repeat (with_reducible first | exact Ext.refl _ | assumption | refine Ext.drew ?_ | refine Ext.drewN ?_ _ | refine Ext.alloc ?_ _ | refine Ext.trans ?_ (by with_reducible assumption)))⟩
          · have d1 : ((f : Int) % 256 == 0) = false := by simp; omega
            clear hd
            by_cases he : s = 64
            · subst he
              obtain ⟨ad, c, q, c1, c2, c3, c4, c5⟩ := HR.out.at_ (k := 3) (u := 64) (f := f) (by omega) (by rfl) HF.out hf
              have k1 : (f : Int) / 64 < (q : Int) := by omega
              have k2 : 0 ≤ (f : Int) / 64 := by omega
              have k3 : ((f : Int) / 64).toNat = f / 64 := by omega
              have k4 : IntKind.i64.wrap ((f : Int) / 64) = (f : Int) / 64 := IntWalk.i64_in _ (by omega)
              unfold maxLen at c2
              go_wp2_with fail
              go_quiet (fail)
              go_wp2_with fail
              go_ret
              exact ⟨rfl, by (repeat (with_reducible first | exact Ext.refl _ | assumption | refine Ext.drew ?_ | refine Ext.drewN ?_ _ | refine Ext.alloc ?_ _ | refine Ext.trans ?_ (by with_reducible assumption)))⟩
            · have he1 : ((s : Int) == 64) = false := by simp; omega
              have hh := half_lt (n := s) (by omega) (by omega)
              have hp := half_pos s
              have HS := Lib.hid (seg_split (xs := xs) (f := f) (s := s) (by rw [HX.out]; omega) (by omega) (by omega))
              have v1 := (vld_true (vld_ofL (allV_seg hv f (half s)) (by rw [seg_len (by rw [HX.out]; omega)]; omega))).1
              have v2 := (vld_true (vld_ofL (allV_seg hv (f + half s) (s - half s)) (by rw [seg_len (by rw [HX.out]; omega)]; omega))).1
              have N1 : Hid ((f : Int) + ((half s : Nat) : Int) = ((f + half s : Nat) : Int)) := by show _ = _; omega
              have N2 : Hid ((s : Int) - ((half s : Nat) : Int) = ((s - half s : Nat) : Int)) := by show _ = _; omega
              clear he
              go_wp2_with fail
              refine (Half_any _ _ (by omega) (by omega)).mono ?_
              rintro e w' ⟨rfl, rfl⟩
              rw [Int.toNat_natCast]
              go_wp2_with fail
              refine (IH.out f (half s) _ (by omega) (by omega) (by omega) HR.out).mono ?_
              rintro e w1 ⟨rfl, hb1⟩
              go_wp2_with fail
              rw [N1.out, N2.out]
              refine (IH.out (f + half s) (s - half s) _ (by omega) (by omega) (by omega) (HR.out.ext hb1)).mono ?_
              rintro e w2 ⟨rfl, hb2⟩
              go_wp2_with fail
              refine (NodeOf_any _ _ _ v1 v2).mono ?_
              rintro e w3 ⟨rfl, hb3⟩
              go_wp2_with fail
              go_ret
              exact ⟨ret_int HS.out.symm, by (repeat (with_reducible first | exact Ext.refl _ | assumption | refine Ext.drew ?_ | refine Ext.drewN ?_ _ | refine Ext.alloc ?_ _ | refine Ext.trans ?_ (by with_reducible assumption)))⟩
        · have d2 : (s : Int) < 256 := by omega
          clear hb
          by_cases he : s = 64
          · subst he
            obtain ⟨ad, c, q, c1, c2, c3, c4, c5⟩ := HR.out.at_ (k := 3) (u := 64) (f := f) (by omega) (by rfl) HF.out hf
            have k1 : (f : Int) / 64 < (q : Int) := by omega
            have k2 : 0 ≤ (f : Int) / 64 := by omega
            have k3 : ((f : Int) / 64).toNat = f / 64 := by omega
            have k4 : IntKind.i64.wrap ((f : Int) / 64) = (f : Int) / 64 := IntWalk.i64_in _ (by omega)
            unfold maxLen at c2
            go_wp2_with fail
            go_quiet (fail)
            go_wp2_with fail
            go_ret
            exact ⟨rfl, by (repeat (with_reducible first | exact Ext.refl _ | assumption | refine Ext.drew ?_ | refine Ext.drewN ?_ _ | refine Ext.alloc ?_ _ | refine Ext.trans ?_ (by with_reducible assumption)))⟩
          · have he1 : ((s : Int) == 64) = false := by simp; omega
            have hh := half_lt (n := s) (by omega) (by omega)
            have hp := half_pos s
            have HS := Lib.hid (seg_split (xs := xs) (f := f) (s := s) (by rw [HX.out]; omega) (by omega) (by omega))
            have v1 := (vld_true (vld_ofL (allV_seg hv f (half s)) (by rw [seg_len (by rw [HX.out]; omega)]; omega))).1
            have v2 := (vld_true (vld_ofL (allV_seg hv (f + half s) (s - half s)) (by rw [seg_len (by rw [HX.out]; omega)]; omega))).1
            have N1 : Hid ((f : Int) + ((half s : Nat) : Int) = ((f + half s : Nat) : Int)) := by show _ = _; omega
            have N2 : Hid ((s : Int) - ((half s : Nat) : Int) = ((s - half s : Nat) : Int)) := by show _ = _; omega
            clear he
            go_wp2_with fail
            refine (Half_any _ _ (by omega) (by omega)).mono ?_
            rintro e w' ⟨rfl, rfl⟩
            rw [Int.toNat_natCast]
            go_wp2_with fail
            refine (IH.out f (half s) _ (by omega) (by omega) (by omega) HR.out).mono ?_
            rintro e w1 ⟨rfl, hb1⟩
            go_wp2_with fail
            rw [N1.out, N2.out]
            refine (IH.out (f + half s) (s - half s) _ (by omega) (by omega) (by omega) (HR.out.ext hb1)).mono ?_
            rintro e w2 ⟨rfl, hb2⟩
            go_wp2_with fail
            refine (NodeOf_any _ _ _ v1 v2).mono ?_
            rintro e w3 ⟨rfl, hb3⟩
            go_wp2_with fail
            go_ret
            exact ⟨ret_int HS.out.symm, by (repeat (with_reducible first | exact Ext.refl _ | assumption | refine Ext.drew ?_ | refine Ext.drewN ?_ _ | refine Ext.alloc ?_ _ | refine Ext.trans ?_ (by with_reducible assumption)))⟩
end Go.Proofs.YtfccbjfiionepaaGreatDoor
