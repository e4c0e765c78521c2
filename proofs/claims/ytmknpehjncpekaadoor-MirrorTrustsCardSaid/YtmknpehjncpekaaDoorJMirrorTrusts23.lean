/- The way up, step by step: plain. -/
import Derived.Test.YtmknpehjncpekaaDoorJMirrorTrusts0
import Derived.Test.YtmknpehjncpekaaDoorJMirrorTrusts4
import Derived.Lib.SlicesS
import Derived.Test.YtmknpehjncpekaaDoorJMirrorTrusts12
import Derived.Test.YtmknpehjncpekaaDoorJMirrorTrusts15
import Derived.BigRegion
import Derived.Test.YtmknpehjncpekaaDoorJMirrorTrusts19
import Derived.Test.YtmknpehjncpekaaDoorJMirrorTrusts17
import Derived.Test.YtmknpehjncpekaaDoorJMirrorTrusts13
import Derived.Test.YtmknpehjncpekaaDoorJMirrorTrusts9
import Derived.Test.YtmknpehjncpekaaDoorJMirrorTrusts22
import Derived.Test.YtmknpehjncpekaaDoorJMirrorTrusts21
import Derived.Deep.DeepCutAuto
import Derived.Deep.CutRange
import Derived.Deep.CutBlock
namespace Go.Proofs.YtmknpehjncpekaaDoor
set_option linter.unusedVariables false

theorem byteOf_inj {a b : Int} (ha : 0 ≤ a) (ha' : a < 256) (hb : 0 ≤ b) (hb' : b < 256) (h : byteOf a = byteOf b) : a = b := by
  have h1 := toNat_byteOf a ha ha'
  have h2 := toNat_byteOf b hb hb'
  rw [h] at h1
  omega
theorem fourB_inj {a b : Int} (ha : vld a = true) (hb : vld b = true) (h : fourB a = fourB b) : a = b := by
  have ha := vld_true ha
  have hb := vld_true hb
  unfold fourB at h
  simp only [List.cons.injEq, and_true] at h
  obtain ⟨h1, h2, h3, h4⟩ := h
  have h1 := byteOf_inj (by omega) (by omega) (by omega) (by omega) h1
  have h2 := byteOf_inj (by omega) (by omega) (by omega) (by omega) h2
  have h3 := byteOf_inj (by omega) (by omega) (by omega) (by omega) h3
  have h4 := byteOf_inj (by omega) (by omega) (by omega) (by omega) h4
  omega
theorem nodeB_inj {a b c d : Int} (ha : vld a = true) (hb : vld b = true) (hc : vld c = true) (hd : vld d = true) (h : nodeB a b = nodeB c d) : a = c ∧ b = d := by
  unfold nodeB at h
  injection h with _ h
  obtain ⟨h1, h2⟩ := List.append_inj h rfl
  exact ⟨fourB_inj ha hc h1, fourB_inj hb hd h2⟩

/-- does the k-th sum of a proof stand on the left? -/
def turnL (i n k : Nat) : Bool :=
  if h : 2 ≤ n ∧ half n < n then
    (if i < half n then (if stepsN i (half n) = k then false else turnL i (half n) k)
     else (if stepsN (i - half n) (n - half n) = k then true else turnL (i - half n) (n - half n) k))
  else false
termination_by n
decreasing_by
  · exact h.2
  · have := half_pos n; omega
theorem turnL_left {i n k : Nat} (h2 : 2 ≤ n) (hn : n ≤ 4096) (hi : i < half n) : turnL i n k = if stepsN i (half n) = k then false else turnL i (half n) k := by
  rw [turnL, dif_pos ⟨h2, half_lt h2 hn⟩, if_pos hi]
theorem turnL_right {i n k : Nat} (h2 : 2 ≤ n) (hn : n ≤ 4096) (hi : ¬ i < half n) : turnL i n k = if stepsN (i - half n) (n - half n) = k then true else turnL (i - half n) (n - half n) k := by
  rw [turnL, dif_pos ⟨h2, half_lt h2 hn⟩, if_neg hi]

def stepL (t : Bool) (a b : Int) : Int := if t then nodeL b a else nodeL a b
def stepB (t : Bool) (a b : Int) : List UInt8 := if t then nodeB b a else nodeB a b
theorem stepL_eq (t : Bool) (a b : Int) : stepL t a b = sumL (stepB t a b) := by cases t <;> rfl
theorem vld_stepL (t : Bool) (a b : Int) : vld (stepL t a b) = true := by rw [stepL_eq]; exact vld_sum _
theorem stepB_inj {t : Bool} {a b c d : Int} (ha : vld a = true) (hb : vld b = true) (hc : vld c = true) (hd : vld d = true) (h : stepB t a b = stepB t c d) : a = c ∧ b = d := by
  cases t
  · exact nodeB_inj ha hb hc hd h
  · exact (nodeB_inj hb ha hd hc h).symm

/-- the k-th of numbers -/
def nthI (p : List Int) (k : Nat) : Int := p.getD k 0
theorem nthI_get {p : List Int} {k : Nat} (h : k < p.length) : p[k]? = some (nthI p k) := by unfold nthI; rw [List.getD_eq_getElem?_getD, List.getElem?_eq_getElem h]; rfl
/-- up 'm' steps from the k-th on -/
def upF (t : Nat → Bool) (p : Nat → Int) : Nat → Nat → Int → Int
  | 0, _, a => a
  | m + 1, k, a => upF t p m (k + 1) (stepL (t k) a (p k))
theorem upF_snoc (t : Nat → Bool) (p : Nat → Int) : ∀ (m k : Nat) (a : Int), upF t p (m + 1) k a = stepL (t (k + m)) (upF t p m k a) (p (k + m))
  | 0, k, a => rfl
  | m + 1, k, a => by
    show upF t p (m + 1) (k + 1) _ = _
    rw [upF_snoc t p m (k + 1)]
    show stepL (t (k + 1 + m)) (upF t p (m + 1) k a) _ = _
    rw [show k + 1 + m = k + (m + 1) by omega]
theorem upF_add (t : Nat → Bool) (p : Nat → Int) : ∀ (j m k : Nat) (a : Int), upF t p (j + m) k a = upF t p m (k + j) (upF t p j k a)
  | 0, m, k, a => by rw [Nat.zero_add]; rfl
  | j + 1, m, k, a => by
    rw [show j + 1 + m = (j + m) + 1 by omega]
    show upF t p (j + m) (k + 1) _ = _
    rw [upF_add t p j m (k + 1), show k + 1 + j = k + (j + 1) by omega]
    rfl
theorem upF_congr {t t' : Nat → Bool} {p p' : Nat → Int} : ∀ (m k : Nat) (a : Int), (∀ j, k ≤ j → j < k + m → t j = t' j ∧ p j = p' j) → upF t p m k a = upF t' p' m k a
  | 0, _, _, _ => rfl
  | m + 1, k, a, h => by
    show upF t p m (k + 1) _ = upF t' p' m (k + 1) _
    obtain ⟨h1, h2⟩ := h k (Nat.le_refl _) (by omega)
    rw [h1, h2]
    exact upF_congr m (k + 1) _ fun j hj hj' => h j (by omega) (by omega)
theorem vld_upF (t : Nat → Bool) (p : Nat → Int) : ∀ (m k : Nat) (a : Int), vld a = true → vld (upF t p m k a) = true
  | 0, _, _, h => h
  | m + 1, k, a, _ => vld_upF t p m (k + 1) _ (vld_stepL _ _ _)
theorem dropLast_getD {p : List Int} {j : Nat} (h : j + 1 < p.length) : nthI p.dropLast j = nthI p j := by
  unfold nthI
  rw [List.dropLast_eq_take, List.getD_eq_getElem?_getD, List.getD_eq_getElem?_getD, List.getElem?_take, if_pos (by omega)]
theorem getLastD_getD {p : List Int} {m : Nat} (h : p.length = m + 1) : p.getLastD 0 = nthI p m := by
  unfold nthI
  rw [List.getLastD_eq_getLast?, List.getLast?_eq_getElem?, List.getD_eq_getElem?_getD, h]; rfl
theorem upL_upF (N : Nat) : ∀ (i n : Nat) (s : Int) (p : List Int), n ≤ N → n ≤ 4096 → p.length = stepsN i n → upL i n s p = upF (turnL i n) (nthI p) (stepsN i n) 0 s := by
  induction N with
  | zero => intro i n s p h hn hp; rw [upL_one (by omega), stepsN_one i (by omega)]; rfl
  | succ N ih =>
    intro i n s p h hn hp
    by_cases h2 : 2 ≤ n
    · have h3 := half_lt h2 hn
      have h4 := half_pos n
      by_cases hi : i < half n
      · have hs := stepsN_left h2 hn hi
        have ht : turnL i n (stepsN i (half n)) = false := (turnL_left h2 hn hi).trans (if_pos rfl)
        have hc : upF (turnL i (half n)) (nthI p.dropLast) (stepsN i (half n)) 0 s = upF (turnL i n) (nthI p) (stepsN i (half n)) 0 s :=
          upF_congr _ _ _ fun j _ hj => ⟨((turnL_left h2 hn hi).trans (if_neg (by omega))).symm, dropLast_getD (by omega)⟩
        have hu := ih i (half n) s p.dropLast (by omega) (by omega) (by rw [List.length_dropLast]; omega)
        have hg := getLastD_getD (hp.trans hs)
        have hz := upF_snoc (turnL i n) (nthI p) (stepsN i (half n)) 0 s
        rw [Nat.zero_add, ht] at hz
        rw [upL_left h2 hn hi, hu, hc, hg, hs]
        exact hz.symm
      · have hs := stepsN_right h2 hn hi
        have ht : turnL i n (stepsN (i - half n) (n - half n)) = true := (turnL_right h2 hn hi).trans (if_pos rfl)
        have hc : upF (turnL (i - half n) (n - half n)) (nthI p.dropLast) (stepsN (i - half n) (n - half n)) 0 s = upF (turnL i n) (nthI p) (stepsN (i - half n) (n - half n)) 0 s :=
          upF_congr _ _ _ fun j _ hj => ⟨((turnL_right h2 hn hi).trans (if_neg (by omega))).symm, dropLast_getD (by omega)⟩
        have hu := ih (i - half n) (n - half n) s p.dropLast (by omega) (by omega) (by rw [List.length_dropLast]; omega)
        have hg := getLastD_getD (hp.trans hs)
        have hz := upF_snoc (turnL i n) (nthI p) (stepsN (i - half n) (n - half n)) 0 s
        rw [Nat.zero_add, ht] at hz
        rw [upL_right h2 hn hi, hu, hc, hg, hs]
        exact hz.symm
    · rw [upL_one h2, stepsN_one i h2]; rfl
end Go.Proofs.YtmknpehjncpekaaDoor

/- witsame.Entries, whatever the entries. -/
namespace Go.Proofs.YtmknpehjncpekaaDoor
open Go.RowKit
set_option linter.unusedVariables false
attribute [local go_sem ↓] Go.wp_at_zero Go.wp_at_succ

theorem ent_ext {a b : Ent} (h1 : a.time = b.time) (h2 : a.data = b.data) : a = b := by
  obtain ⟨_, _⟩ := a
  obtain ⟨_, _⟩ := b
  simp only at h1 h2
  subst h1 h2
  rfl
set_option maxRecDepth 100000 in
set_option maxHeartbeats 1000000 in
theorem Entries_not (A A' : Option Addr) (n n' c c' : Nat) (es es' : List Ent) (w : World) (hr : Rd w 2 A n c (es.flatMap Ent.cells)) (hr' : Rd w 2 A' n' c' (es'.flatMap Ent.cells)) (hm : n ≤ 9223372036854775807) (hm' : n' ≤ 9223372036854775807) (hne : es ≠ es') :
    Calls Tryd.prog 26 #[.slice A n c, .slice A' n' c'] w fun e w' => e = .returned (.bool false) ∧ Ext w w' := by
  have HX := Lib.hid hr.lenE
  have HX' := Lib.hid hr'.lenE
  have hl := hr.2.1
  have hl' := hr'.2.1
  have HNE := Lib.hid hne
  clear hne
  by_cases hnn : n = n'
  · subst hnn
    have H0 : Hid (es.take 0 = es'.take 0) := rfl
    go_enter Tryd.func26, Tryd.ntmps26
    go_wp2_with fail
    go_loopw [5] (fun x wr => ∃ j : Nat, x = .int .i64 j ∧ j ≤ n ∧ Ext w wr ∧ Hid (es.take j = es'.take j)) (fun x _ => n - (intOf x).toNat)
    case atStart => exact ⟨0, rfl, Nat.zero_le _, by (repeat (with_reducible first | exact Ext.refl _ | assumption | refine Ext.drew ?_ | refine Ext.drewN ?_ _ | refine Ext.alloc ?_ _ | refine Ext.trans ?_ (by with_reducible assumption))), H0⟩
    case round =>
      obtain ⟨j, rfl, hj, hbw, htk⟩ := hrel
      by_cases hc : j < n
      · have hgj := List.getElem?_eq_getElem (l := es) (i := j) (by rw [HX.out]; exact hc)
        have hgj' := List.getElem?_eq_getElem (l := es') (i := j) (by rw [HX'.out]; exact hc)
        obtain ⟨ad, rfl, hb, c0, c1⟩ := (hr.ext hbw).getE hgj
        obtain ⟨ad', rfl, hb', c0', c1'⟩ := (hr'.ext hbw).getE hgj'
        have hstep : es[j]'(by rw [HX.out]; exact hc) = es'[j]'(by rw [HX'.out]; exact hc) → es.take (j + 1) = es'.take (j + 1) := fun h => by
          rw [List.take_succ_eq_append_getElem (by rw [HX.out]; exact hc), List.take_succ_eq_append_getElem (by rw [HX'.out]; exact hc), htk.out, h]
        generalize es[j]'(by rw [HX.out]; exact hc) = e at *
        generalize es'[j]'(by rw [HX'.out]; exact hc) = e' at *
        obtain ⟨et, ed⟩ := e
        obtain ⟨ft, fd⟩ := e'
        simp only at c0 c1 c0' c1'
        have HST := Lib.hid hstep
        have hcN : (j : Int) < (n : Int) := by omega
        clear hgj hgj' hstep
        by_cases h1 : et = ft
        · subst h1
          by_cases h2 : ed = fd
          · subst h2
            have HT := Lib.hid (HST.out rfl)
            go_wp2_with fail
            go_quiet (fail)
            go_wp2_with fail
            go_roundw
            case rel => exact ⟨j + 1, by go_num, by omega, by (repeat (with_reducible first | exact Ext.refl _ | assumption | refine Ext.drew ?_ | refine Ext.drewN ?_ _ | refine Ext.alloc ?_ _ | refine Ext.trans ?_ (by with_reducible assumption))), HT⟩
            case measure => simp [intOf]; omega
          · have b2 := (Lib.bytes_beq_false_iff ed fd).2 h2
            clear h2
            go_wp2_with fail
            go_quiet (fail)
            go_wp2_with fail
            go_ret
            exact ⟨rfl, by (repeat (with_reducible first | exact Ext.refl _ | assumption | refine Ext.drew ?_ | refine Ext.drewN ?_ _ | refine Ext.alloc ?_ _ | refine Ext.trans ?_ (by with_reducible assumption)))⟩
        · have b1 : (et == ft) = false := beq_eq_false_iff_ne.2 h1
          clear h1
          go_wp2_with fail
          go_quiet (fail)
          go_wp2_with fail
          go_ret
          exact ⟨rfl, by (repeat (with_reducible first | exact Ext.refl _ | assumption | refine Ext.drew ?_ | refine Ext.drewN ?_ _ | refine Ext.alloc ?_ _ | refine Ext.trans ?_ (by with_reducible assumption)))⟩
      · exfalso
        obtain rfl : j = n := by omega
        refine HNE.out ?_
        have h := htk.out
        rw [List.take_of_length_le (by rw [HX.out]; exact Nat.le_refl _), List.take_of_length_le (by rw [HX'.out]; exact Nat.le_refl _)] at h
        exact h
  · have hnb : ((n : Int) == (n' : Int)) = false := beq_eq_false_iff_ne.2 (fun h => hnn (by omega))
    clear hnn
    go_enter Tryd.func26, Tryd.ntmps26
    go_wp2_with fail
    go_ret
    exact ⟨rfl, by (repeat (with_reducible first | exact Ext.refl _ | assumption | refine Ext.drew ?_ | refine Ext.drewN ?_ _ | refine Ext.alloc ?_ _ | refine Ext.trans ?_ (by with_reducible assumption)))⟩
set_option maxRecDepth 100000 in
theorem Entries_yes (A A' : Option Addr) (n c c' : Nat) (es : List Ent) (w : World) (hr : Rd w 2 A n c (es.flatMap Ent.cells)) (hr' : Rd w 2 A' n c' (es.flatMap Ent.cells)) (hm : n ≤ 9223372036854775807) :
    Calls Tryd.prog 26 #[.slice A n c, .slice A' n c'] w fun e w' => e = .returned (.bool true) ∧ Ext w w' := by
  have HX := Lib.hid hr.lenE
  have hl := hr.2.1
  have hl' := hr'.2.1
  go_enter Tryd.func26, Tryd.ntmps26
  go_wp2_with fail
  go_loopw [5] (fun x wr => ∃ j : Nat, x = .int .i64 j ∧ j ≤ n ∧ Ext w wr) (fun x _ => n - (intOf x).toNat)
  case atStart => exact ⟨0, rfl, Nat.zero_le _, by (repeat (with_reducible first | exact Ext.refl _ | assumption | refine Ext.drew ?_ | refine Ext.drewN ?_ _ | refine Ext.alloc ?_ _ | refine Ext.trans ?_ (by with_reducible assumption)))⟩
  case round =>
    obtain ⟨j, rfl, hj, hbw⟩ := hrel
    by_cases hc : j < n
    · have hgj := List.getElem?_eq_getElem (l := es) (i := j) (by rw [HX.out]; exact hc)
      obtain ⟨ad, rfl, hb, c0, c1⟩ := (hr.ext hbw).getE hgj
      obtain ⟨ad', rfl, hb', c0', c1'⟩ := (hr'.ext hbw).getE hgj
      generalize es[j]'(by rw [HX.out]; exact hc) = e at *
      have hcN : (j : Int) < (n : Int) := by omega
      go_wp2_with fail
      go_quiet (fail)
      go_wp2_with fail
      go_roundw
      case rel => exact ⟨j + 1, by go_num, by omega, by (repeat (with_reducible first | exact Ext.refl _ | assumption | refine Ext.drew ?_ | refine Ext.drewN ?_ _ | refine Ext.alloc ?_ _ | refine Ext.trans ?_ (by with_reducible assumption)))⟩
      case measure => simp [intOf]; omega
    · go_wp2_with fail
      go_ret
      exact ⟨rfl, by (repeat (with_reducible first | exact Ext.refl _ | assumption | refine Ext.drew ?_ | refine Ext.drewN ?_ _ | refine Ext.alloc ?_ _ | refine Ext.trans ?_ (by with_reducible assumption)))⟩
/-- are two lists the same? -/
noncomputable def entsB (es es' : List Ent) : Bool := @decide (es = es') (Classical.propDecidable _)
theorem Entries_any (A A' : Option Addr) (n n' c c' : Nat) (es es' : List Ent) (w : World) (hr : Rd w 2 A n c (es.flatMap Ent.cells)) (hr' : Rd w 2 A' n' c' (es'.flatMap Ent.cells)) (hm : c ≤ maxLen) (hm' : c' ≤ maxLen) :
    Calls Tryd.prog 26 #[.slice A n c, .slice A' n' c'] w fun e w' => e = .returned (.bool (entsB es es')) ∧ Ext w w' := by
  have h1 := hr.2.1
  have h2 := hr'.2.1
  unfold maxLen at hm hm'
  by_cases h : es = es'
  · subst h
    have hn : n' = n := hr'.lenE.symm.trans hr.lenE
    subst hn
    have hb : entsB es es = true := @decide_eq_true _ (Classical.propDecidable _) rfl
    rw [hb]
    exact Entries_yes A A' _ c c' es w hr hr' (by omega)
  · have hb : entsB es es' = false := by
      cases hq : entsB es es' with
      | false => rfl
      | true => exact absurd (@of_decide_eq_true _ (Classical.propDecidable _) hq) h
    rw [hb]
    exact Entries_not A A' n n' c c' es es' w hr hr' (by omega) (by omega) h
end Go.Proofs.YtmknpehjncpekaaDoor

/- Two lists of one root: where they clash. The references' Clash, the program's Collide. -/
namespace Go.Proofs.YtmknpehjncpekaaDoor
open Go.RowKit Go.WideShapes
set_option linter.unusedVariables false
attribute [local go_sem ↓] Go.wp_at_zero Go.wp_at_succ

/-! ### plain -/
def str0 (s : ByteArray) : ByteArray := ⟨#[0]⟩ ++ s
def topB (k : Nat) (a : List ByteArray) : List UInt8 := nodeB (ofL ((sumsD a).take k)) (ofL ((sumsD a).drop k))
def topS (k : Nat) (a : List ByteArray) : ByteArray := ⟨(topB k a).toArray⟩
def clashL (a b : List ByteArray) : ByteArray × ByteArray :=
  if h : 2 ≤ a.length ∧ half a.length < a.length then
    if topB (half a.length) a ≠ topB (half a.length) b then (topS (half a.length) a, topS (half a.length) b)
    else if a.take (half a.length) ≠ b.take (half a.length) then clashL (a.take (half a.length)) (b.take (half a.length))
    else clashL (a.drop (half a.length)) (b.drop (half a.length))
  else (str0 (a.headD ⟨#[]⟩), str0 (b.headD ⟨#[]⟩))
termination_by a.length
decreasing_by
  · rw [List.length_take]; omega
  · rw [List.length_drop]; have := half_pos a.length; omega
theorem clashL_one (x y : ByteArray) : clashL [x] [y] = (str0 x, str0 y) := by rw [clashL, dif_neg (by simp)]; rfl
theorem clashL_top {a b : List ByteArray} (h2 : 2 ≤ a.length) (hn : a.length ≤ 4096) (h : topB (half a.length) a ≠ topB (half a.length) b) : clashL a b = (topS (half a.length) a, topS (half a.length) b) := by
  rw [clashL, dif_pos ⟨h2, half_lt h2 hn⟩, if_pos h]
theorem clashL_left {a b : List ByteArray} (h2 : 2 ≤ a.length) (hn : a.length ≤ 4096) (h : topB (half a.length) a = topB (half a.length) b) (h' : a.take (half a.length) ≠ b.take (half a.length)) : clashL a b = clashL (a.take (half a.length)) (b.take (half a.length)) := by
  rw [clashL, dif_pos ⟨h2, half_lt h2 hn⟩, if_neg (not_not_intro h), if_pos h']
theorem clashL_right {a b : List ByteArray} (h2 : 2 ≤ a.length) (hn : a.length ≤ 4096) (h : topB (half a.length) a = topB (half a.length) b) (h' : a.take (half a.length) = b.take (half a.length)) : clashL a b = clashL (a.drop (half a.length)) (b.drop (half a.length)) := by
  rw [clashL, dif_pos ⟨h2, half_lt h2 hn⟩, if_neg (not_not_intro h), if_neg (not_not_intro h')]
theorem topS_ne {k : Nat} {a b : List ByteArray} (h : topB k a ≠ topB k b) : (topS k a).toList ≠ (topS k b).toList := by
  intro e
  apply h
  have h1 := congrArg ByteArray.toList (rfl : topS k a = topS k a)
  have h2 : topS k a = topS k b := by
    have := (Lib.bytes_beq_false_iff (topS k a) (topS k b))
    rcases Classical.em (topS k a = topS k b) with he | he
    · exact he
    · have h3 := this.2 he
      rw [e] at h3
      simp at h3
  have h4 := congrArg (fun s : ByteArray => s.data.toList) h2
  simpa [topS] using h4

/-! ### the references' -/
end Go.Proofs.YtmknpehjncpekaaDoor

namespace Go.Proofs.YtmknpehjncpekaaDoor
open Go.RowKit Go.WideShapes
set_option linter.unusedVariables false
attribute [local go_sem ↓] Go.wp_at_zero Go.wp_at_succ

theorem RTop_any (k : Nat) (a : List ByteArray) (w : World) (hl : a.length ≤ 4096) :
    Calls Tryd.prog 61 #[.int .i64 (ofL ((sumsD a).take k)), .int .i64 (ofL ((sumsD a).drop k))] w fun e w' => e = .returned (.string (topS k a)) ∧ Ext w w' :=
  RNodeBytes_any _ _ w (vld_ofL (allV_take (allV_sumsD a) k) (by rw [List.length_take, sumsD_len]; omega)) (vld_ofL (allV_drop (allV_sumsD a) k) (by rw [List.length_drop, sumsD_len]; omega))
end Go.Proofs.YtmknpehjncpekaaDoor

namespace Go.Proofs.YtmknpehjncpekaaDoor
open Go.RowKit Go.WideShapes
set_option linter.unusedVariables false
attribute [local go_sem ↓] Go.wp_at_zero Go.wp_at_succ

def allS (l : List ByteArray) : Bool := l.all fun s => decide (s.size ≤ 200)
theorem allS_snoc {l : List ByteArray} {k : Nat} {z : ByteArray} (hz : l[k]? = some z) : allS (l.take (k + 1)) = (allS (l.take k) && decide (z.size ≤ 200)) := by
  obtain ⟨h, rfl⟩ := List.getElem?_eq_some_iff.1 hz
  unfold allS
  rw [List.take_succ_eq_append_getElem h, List.all_append]
  simp only [List.all_cons, List.all_nil, Bool.and_true]
theorem allS_no {l : List ByteArray} {k : Nat} {z : ByteArray} (hz : l[k]? = some z) (hv : ¬ z.size ≤ 200) : allS l = false := by
  cases h : allS l
  · rfl
  · exact absurd (of_decide_eq_true (List.all_eq_true.1 h z (List.mem_of_getElem? hz))) hv
theorem dataK_allS {l : List ByteArray} (h : l.length ≤ 200) : dataK l = if allS l = true then 0 else 4 := by
  cases hs : allS l
  · rw [if_neg (by decide)]
    refine dataK_bad fun hk => ?_
    have : allS l = true := List.all_eq_true.2 fun s hs => decide_eq_true (hk.2 s hs)
    rw [hs] at this; cases this
  · rw [if_pos rfl]
    exact dataK_ok ⟨h, fun s hm => of_decide_eq_true (List.all_eq_true.1 hs s hm)⟩
def idxS (l : List ByteArray) (e : Ending) : Prop := ∃ i : Int, e = .returned (.int .i64 i) ∧ (allS l = true → i = -1) ∧ (allS l = false → 0 ≤ i)
def sumsK (l : List ByteArray) : List Int := if dataK l = 0 then sumsD l else []
end Go.Proofs.YtmknpehjncpekaaDoor

namespace Go.Proofs.YtmknpehjncpekaaDoor
open Go.RowKit Go.WideShapes
set_option linter.unusedVariables false
attribute [local go_sem ↓] Go.wp_at_zero Go.wp_at_succ

def okL (xs : List Int) : Prop := allV xs = true ∧ xs.length ≤ 4096
theorem ofL_pos (xs : List Int) (h : okL xs) : 0 ≤ ofL xs := (vld_true (vld_ofL h.1 h.2)).1
theorem okL_take (a : List ByteArray) (k : Nat) (hl : a.length ≤ 4096) : okL ((sumsD a).take k) := ⟨allV_take (allV_sumsD a) k, by rw [List.length_take, sumsD_len]; omega⟩
theorem okL_drop (a : List ByteArray) (k : Nat) (hl : a.length ≤ 4096) : okL ((sumsD a).drop k) := ⟨allV_drop (allV_sumsD a) k, by rw [List.length_drop, sumsD_len]; omega⟩
theorem TTop_any (k : Nat) (a : List ByteArray) (w : World) (hl : a.length ≤ 4096) :
    Calls Tryd.prog 91 #[.int .i64 (ofL ((sumsD a).take k)), .int .i64 (ofL ((sumsD a).drop k))] w fun e w' => e = .returned (.string (topS k a)) ∧ Ext w w' :=
  BytesOf_any _ _ w (vld_true (vld_ofL (allV_take (allV_sumsD a) k) (by rw [List.length_take, sumsD_len]; omega))).1 (vld_true (vld_ofL (allV_drop (allV_sumsD a) k) (by rw [List.length_drop, sumsD_len]; omega))).1

def collK (a b : List ByteArray) : Int :=
  if dataK a ≠ 0 then 4 else if dataK b ≠ 0 then 4 else if a.length ≠ b.length then 3 else if a = b then 7 else if ofL (sumsD a) ≠ ofL (sumsD b) then 5 else 0
def collV (a b : List ByteArray) : ByteArray × ByteArray := if collK a b = 0 then clashL a b else (⟨#[]⟩, ⟨#[]⟩)
theorem coll_ways (a b : List ByteArray) : (¬ dataOk a ∧ collK a b = 4) ∨ (dataOk a ∧ ¬ dataOk b ∧ collK a b = 4) ∨ (dataOk a ∧ dataOk b ∧ a.length ≠ b.length ∧ collK a b = 3) ∨ (dataOk a ∧ dataOk b ∧ a.length = b.length ∧ a = b ∧ collK a b = 7) ∨ (dataOk a ∧ dataOk b ∧ a.length = b.length ∧ a ≠ b ∧ ofL (sumsD a) ≠ ofL (sumsD b) ∧ collK a b = 5) ∨ (dataOk a ∧ dataOk b ∧ a.length = b.length ∧ a ≠ b ∧ ofL (sumsD a) = ofL (sumsD b) ∧ collK a b = 0) := by
  unfold collK
  by_cases ha : dataOk a
  · rw [dataK_ok ha, if_neg (by decide)]
    by_cases hb : dataOk b
    · rw [dataK_ok hb, if_neg (by decide)]
      by_cases hl : a.length = b.length
      · rw [if_neg (not_not_intro hl)]
        by_cases he : a = b
        · rw [if_pos he]; exact .inr (.inr (.inr (.inl ⟨ha, hb, hl, he, rfl⟩)))
        · rw [if_neg he]
          by_cases ho : ofL (sumsD a) = ofL (sumsD b)
          · rw [if_neg (not_not_intro ho)]; exact .inr (.inr (.inr (.inr (.inr ⟨ha, hb, hl, he, ho, rfl⟩))))
          · rw [if_pos ho]; exact .inr (.inr (.inr (.inr (.inl ⟨ha, hb, hl, he, ho, rfl⟩))))
      · rw [if_pos hl]; exact .inr (.inr (.inl ⟨ha, hb, hl, rfl⟩))
    · rw [dataK_bad hb, if_pos (by decide)]; exact .inr (.inl ⟨ha, hb, rfl⟩)
  · rw [dataK_bad ha, if_pos (by decide)]; exact .inl ⟨ha, rfl⟩

end Go.Proofs.YtmknpehjncpekaaDoor

/- Two faces of a log: plain; and wittop.one. -/
namespace Go.Proofs.YtmknpehjncpekaaDoor
open Go.RowKit Go.WideShapes
set_option linter.unusedVariables false
attribute [local go_sem ↓] Go.wp_at_zero Go.wp_at_succ

theorem entB_inj {a b : Ent} (ha : a.ok) (hb : b.ok) (h : a.bytes = b.bytes) : a = b := by
  have h1 := takeE_bytes a ⟨#[]⟩ ha
  have h2 := takeE_bytes b ⟨#[]⟩ hb
  rw [h, h2] at h1
  injection h1 with h1
  injection h1 with h1
  exact h1.symm
theorem entsB_inj : ∀ {a b : List Ent}, (∀ e ∈ a, e.ok) → (∀ e ∈ b, e.ok) → a.map Ent.bytes = b.map Ent.bytes → a = b
  | [], [], _, _, _ => rfl
  | [], y :: b, _, _, h => by cases h
  | x :: a, [], _, _, h => by cases h
  | x :: a, y :: b, ha, hb, h => by
    rw [List.map_cons, List.map_cons] at h
    injection h with h1 h2
    rw [entB_inj (ha x (by simp)) (hb y (by simp)) h1, entsB_inj (fun e he => ha e (by simp [he])) (fun e he => hb e (by simp [he])) h2]
theorem sums_bytes (es : List Ent) : sumsD (es.map Ent.bytes) = es.map Ent.leaf := by
  unfold sumsD
  rw [List.map_map]
  refine List.map_congr_left fun e _ => ?_
  simp only [Function.comp_apply, Ent.leaf]
/-! ### two texts of one sum -/
theorem str0_inj {x y : ByteArray} (h : str0 x = str0 y) : x = y := by
  have h1 := congrArg (fun s : ByteArray => s.data.toList) h
  simp only [str0, toList_cat] at h1
  have h2 := List.append_cancel_left h1
  cases x; cases y
  simp at h2
  rw [h2]
theorem sum_str0 (x : ByteArray) : sumL (str0 x).data.toList = leafL x.data.toList := by unfold str0; rw [toList_cat]; rfl
theorem sum_topS (k : Nat) (a : List ByteArray) : sumL (topS k a).data.toList = nodeL (ofL ((sumsD a).take k)) (ofL ((sumsD a).drop k)) := rfl
theorem topS_size (k : Nat) (a : List ByteArray) : (topS k a).size = 9 := rfl
theorem str0_size (x : ByteArray) : (str0 x).size = 1 + x.size := by unfold str0; rw [size_cat]; rfl
theorem ofL_sums_node {a : List ByteArray} (h2 : 2 ≤ a.length) (hn : a.length ≤ 4096) : ofL (sumsD a) = nodeL (ofL ((sumsD a).take (half a.length))) (ofL ((sumsD a).drop (half a.length))) := by
  have := ofL_node (xs := sumsD a) (by rw [sumsD_len]; exact h2) (by rw [sumsD_len]; exact hn)
  rwa [sumsD_len] at this
theorem clash_law (N : Nat) : ∀ (a b : List ByteArray), a.length ≤ N → 1 ≤ a.length → a.length ≤ 4096 → a.length = b.length → (∀ s ∈ a, s.size ≤ 200) → (∀ s ∈ b, s.size ≤ 200) → a ≠ b → ofL (sumsD a) = ofL (sumsD b) →
    (clashL a b).1 ≠ (clashL a b).2 ∧ sumL (clashL a b).1.data.toList = sumL (clashL a b).2.data.toList ∧ (clashL a b).1.size ≤ 1000 ∧ (clashL a b).2.size ≤ 1000 := by
  induction N with
  | zero => intro a b h h1; omega
  | succ N ih =>
    intro a b h h1 hn hl ha hb hne ho
    by_cases h2 : 2 ≤ a.length
    · have hk := half_lt h2 hn
      have hk0 := half_pos a.length
      have hna := ofL_sums_node h2 hn
      have hnb := ofL_sums_node (a := b) (by omega) (by omega)
      rw [← hl] at hnb
      by_cases ht : topB (half a.length) a = topB (half a.length) b
      · obtain ⟨e1, e2⟩ := nodeB_inj (vld_ofL (allV_take (allV_sumsD a) _) (by rw [List.length_take, sumsD_len]; omega)) (vld_ofL (allV_drop (allV_sumsD a) _) (by rw [List.length_drop, sumsD_len]; omega)) (vld_ofL (allV_take (allV_sumsD b) _) (by rw [List.length_take, sumsD_len]; omega)) (vld_ofL (allV_drop (allV_sumsD b) _) (by rw [List.length_drop, sumsD_len]; omega)) ht
        rw [sumsD_take, sumsD_take] at e1
        rw [sumsD_drop, sumsD_drop] at e2
        by_cases he : a.take (half a.length) = b.take (half a.length)
        · rw [clashL_right h2 hn ht he]
          refine ih _ _ (by rw [List.length_drop]; omega) (by rw [List.length_drop]; omega) (by rw [List.length_drop]; omega) (by rw [List.length_drop, List.length_drop, hl]) (fun s hs => ha s (List.mem_of_mem_drop hs)) (fun s hs => hb s (List.mem_of_mem_drop hs)) ?_ e2
          intro hd
          apply hne
          rw [← List.take_append_drop (half a.length) a, ← List.take_append_drop (half a.length) b, List.take_append_drop, List.take_append_drop] at *
          rw [← List.take_append_drop (half a.length) a, he, hd, List.take_append_drop]
        · rw [clashL_left h2 hn ht he]
          exact ih _ _ (by rw [List.length_take]; omega) (by rw [List.length_take]; omega) (by rw [List.length_take]; omega) (by rw [List.length_take, List.length_take, hl]) (fun s hs => ha s (List.mem_of_mem_take hs)) (fun s hs => hb s (List.mem_of_mem_take hs)) he e1
      · rw [clashL_top h2 hn ht]
        refine ⟨fun e => topS_ne ht (congrArg ByteArray.toList e), ?_, by rw [topS_size]; omega, by rw [topS_size]; omega⟩
        rw [sum_topS, sum_topS, ← hna, ← hnb, ho]
    · have h0 : a.length = 1 := by omega
      obtain ⟨x, rfl⟩ := List.length_eq_one_iff.1 h0
      obtain ⟨y, rfl⟩ := List.length_eq_one_iff.1 (hl ▸ h0 : b.length = 1)
      rw [clashL_one]
      have hx := ha x (by simp)
      have hy := hb y (by simp)
      refine ⟨fun e => hne (by rw [str0_inj e]), ?_, by rw [str0_size]; omega, by rw [str0_size]; omega⟩
      rw [sum_str0, sum_str0]
      have h3 : ofL [leafL x.data.toList] = ofL [leafL y.data.toList] := ho
      rwa [ofL_one, ofL_one] at h3
/-- two lists of one root clash -/
theorem two_clash {l o : List Ent} (hl : entsOk l) (ho : entsOk o) (hn : l.length = o.length) (h1 : 1 ≤ l.length) (hne : l ≠ o) (hsl : ∀ s ∈ l.map Ent.bytes, s.size ≤ 200) (hso : ∀ s ∈ o.map Ent.bytes, s.size ≤ 200) (hr : ofL (l.map Ent.leaf) = ofL (o.map Ent.leaf)) :
    collK (l.map Ent.bytes) (o.map Ent.bytes) = 0 ∧ (collV (l.map Ent.bytes) (o.map Ent.bytes)).1 ≠ (collV (l.map Ent.bytes) (o.map Ent.bytes)).2 ∧ sumL (collV (l.map Ent.bytes) (o.map Ent.bytes)).1.data.toList = sumL (collV (l.map Ent.bytes) (o.map Ent.bytes)).2.data.toList ∧ (collV (l.map Ent.bytes) (o.map Ent.bytes)).1.size ≤ 1000 ∧ (collV (l.map Ent.bytes) (o.map Ent.bytes)).2.size ≤ 1000 := by
  have hb : l.map Ent.bytes ≠ o.map Ent.bytes := fun e => hne (entsB_inj hl.2 ho.2 e)
  have hll : (l.map Ent.bytes).length = (o.map Ent.bytes).length := by rw [List.length_map, List.length_map, hn]
  have hd1 : dataOk (l.map Ent.bytes) := ⟨by rw [List.length_map]; exact hl.1, hsl⟩
  have hd2 : dataOk (o.map Ent.bytes) := ⟨by rw [List.length_map]; exact ho.1, hso⟩
  have hs : ofL (sumsD (l.map Ent.bytes)) = ofL (sumsD (o.map Ent.bytes)) := by rw [sums_bytes, sums_bytes, hr]
  have hk : collK (l.map Ent.bytes) (o.map Ent.bytes) = 0 := by
    unfold collK
    rw [dataK_ok hd1, dataK_ok hd2, if_neg (by decide), if_neg (by decide), if_neg (not_not_intro hll), if_neg hb, if_neg (not_not_intro hs)]
  have hv : collV (l.map Ent.bytes) (o.map Ent.bytes) = clashL (l.map Ent.bytes) (o.map Ent.bytes) := if_pos hk
  rw [hv]
  exact ⟨hk, clash_law (l.map Ent.bytes).length _ _ (Nat.le_refl _) (by rw [List.length_map]; exact h1) (by have := hd1.1; omega) hll hsl hso hb hs⟩

/-! ### the closed fact -/
theorem half2 : half 2 = 1 := by decide
theorem one_way : wayL [5, 6] 1 = [5] := by
  rw [wayL, dif_pos (by rw [show ([5, 6] : List Int).length = 2 from rfl, half2]; decide)]
  show (if 1 < half 2 then _ else wayL (List.drop (half 2) [5, 6]) (1 - half 2) ++ [ofL (List.take (half 2) [5, 6])]) = _
  rw [half2, if_neg (by decide)]
  show wayL [6] 0 ++ [ofL [5]] = [5]
  rw [ofL_one, wayL, dif_neg (by decide)]
  rfl
theorem one_leafs : leafsOk [5, 6] := ⟨by decide, by decide⟩
theorem one_pm : pmK [5, 6] 1 2 = 0 ∧ pmV [5, 6] 1 2 = [5] := by
  have h := pmK_ok (i := 1) (m := 2) one_leafs ⟨by decide, by decide, by decide⟩
  exact ⟨h, by unfold pmV; rw [if_pos h]; exact one_way⟩
theorem one_steps : stepsN 1 2 = 1 := by
  rw [stepsN, dif_pos (by rw [half2]; decide), half2, if_neg (by decide)]
  show stepsN 0 1 + 1 = 1
  rw [stepsN, dif_neg (by decide)]
theorem one_check : pcheck (nodeL 5 6) 2 1 6 [5] = 0 := by
  refine pcheck_ok ⟨by decide, by decide, by decide⟩ ⟨vld_node 5 6, by decide, by decide⟩ (by show 1 = stepsN 1 2; rw [one_steps]) ?_
  show upL 1 2 6 [5] = nodeL 5 6
  rw [upL, dif_pos (by rw [half2]; decide), half2, if_neg (by decide)]
  show nodeL ([5].getLastD 0) (upL 0 1 6 ([5] : List Int).dropLast) = nodeL 5 6
  rw [upL, dif_neg (by decide)]
  rfl
theorem two_rd (w : World) : Rd (w.alloc (.cells #[.int .i64 5, .int .i64 6] 3)) 1 (some ⟨w.heap.size, 0, none⟩) 2 2 (([5, 6] : List Int).map (Value.int .i64)) :=
  ⟨rfl, Nat.le_refl _, fun _ => ⟨_, rfl, by simp, news_new w 3 _ _ rfl⟩⟩
end Go.Proofs.YtmknpehjncpekaaDoor

/- MirrorTrusts: the walk. -/
namespace Go.Proofs.YtmknpehjncpekaaDoor.mirrorTrusts
open Go.RowKit Go.WideShapes
set_option linter.unusedVariables false
attribute [local go_sem ↓] Go.wp_at_zero Go.wp_at_succ

theorem wp_open_block {P : Program} {cd : Code} {b : Nat} {K : Act → World → Prop} {Q : Exit → Act → World → Prop} {a : Act} {w : World} (h : cd.wp P (Exit.then K (Exit.inBlock b (Exit.then K Q))) a w) : cd.wp P (Exit.inBlock b (Exit.then K Q)) a w :=
  Code.wp_mono (fun e a w h => by cases e <;> exact h) h
theorem step_store7 {P : Program} {w : World} {ops : Array Oper} {o : Oper} {a : Act} {K : Act → World → Prop} {Q : Exit → Act → World → Prop} {E : Prop} (hg : o.guard = none) (t : TypeId) (p x : Operand) (hop : o.op = .store t p x)
    (g : Nat) (T : TypeId) (c0 c1 c2 c3 c4 c5 c6 : Value) (z0 z1 z2 z3 z4 : Int) (A A' : Option Addr) (n c n' c' : Nat)
    (hp : a.eval p = .pointer (some ⟨g, 0, none⟩)) (hx : a.eval x = .agg #[.int .i64 z0, .int .i64 z1, .int .i64 z2, .int .i64 z3, .int .i64 z4, .slice A n c, .slice A' n' c'])
    (hsz : ∀ w : World, (sizeOf t).run P w = .ok 7 w) (hb : Bk w g T #[c0, c1, c2, c3, c4, c5, c6])
    (hK : ∀ w', Bk w' g T #[.int .i64 z0, .int .i64 z1, .int .i64 z2, .int .i64 z3, .int .i64 z4, .slice A n c, .slice A' n' c'] → w.grownBy w' (some g) → K (a.put o.dst undef) w') :
    if Region.wanted o (yielded ops a.tmps) = true then Oper.wp P o a w K Q else E := by
  have hw : Region.wanted o (yielded ops a.tmps) = true := by simp [Region.wanted, hg]
  rw [if_pos hw]
  obtain ⟨w', h1, h2, h3⟩ := store7_run (P := P) t g T c0 c1 c2 c3 c4 c5 c6 z0 z1 z2 z3 z4 A A' n c n' c' hsz hb
  unfold Oper.wp
  simp [execOp, hop, hp, hx, h1, Result.andThen]
  exact hK w' h2 h3
def hiE : Ent := ⟨3, ⟨#[104, 105]⟩⟩
theorem hi_ok : entsOk [hiE] := ⟨by decide, fun e he => by
  obtain rfl : e = hiE := by simpa using he
  exact ⟨by decide, by decide, by decide⟩⟩
/-- what was had -/
structure TrI (w W : World) (mb : Nat) (m : Mi) (N : Nat) (A : Option Addr) (k c : Nat) (key : Int) : Prop where
  ext : Ext w W
  mm : MM 85 W (fun g => w.heap.size ≤ g ∧ g < N) mb m
  nle : N ≤ W.heap.size
  far : 0 < k → ∀ ad, A = some ad → N ≤ ad.block
  rd : Rd W 2 A k c (m.own.flatMap Ent.cells)
  cap : c ≤ maxLen
  tr : m.Tr
  key : m.key = key
def TrQ (w W : World) (N : Nat) : Nat → Prop := fun g => (w.heap.size ≤ g ∧ g < N) ∨ W.heap.size ≤ g
set_option maxRecDepth 100000 in
set_option maxHeartbeats 8000000 in
theorem walk_yes (key : Int) (A : Option Addr) (n c : Nat) (es : List Ent) (A2 : Option Addr) (n2 c2 : Nat) (rs : List (RowG Int)) (A3 : Option Addr) (n3 c3 : Nat) (ps : List RpG) (w : World)
    (hkey : keyI key = true) (hm : c ≤ maxLen) (hr : Rd w 2 A n c (es.flatMap Ent.cells)) (hz : ∀ e ∈ es, e.data.size ≤ 140737488351232) (hm2 : c2 ≤ maxLen) (hr2 : Rd w 1 A2 n2 c2 (rs.flatMap RowG.cells)) (g2 : ∀ y ∈ rs, RowG.good w 1 icells igood y)
    (hm3 : c3 ≤ maxLen) (hr3 : Rd w 7 A3 n3 c3 (ps.flatMap RpG.cells)) (g3 : ∀ y ∈ ps, RpG.good w y) (hD : DebG w) (hP : PowG w) :
    Calls Tryd.prog 4 #[.int .i64 key, .slice A n c, .slice A2 n2 c2, .slice A3 n3 c3] w fun e w' => e = .returned (.bool true) ∧ Ext w w' := by
  obtain ⟨hE, hN, hG0⟩ := errR_rules
  have hfw := field_want
  have hx := hr.lenE
  have hx2 : rs.length = n2 := by have := hr2.1; rw [flat_rows] at this; simpa using this
  have hx3 := hr3.lenP
  have hnc := hr.2.1
  have hnc2 := hr2.2.1
  have hnc3 := hr3.2.1
  have hcs : c ≤ 9223372036854775807 := by unfold maxLen at hm; omega
  have hcs2 : c2 ≤ 9223372036854775807 := by unfold maxLen at hm2; omega
  have hcs3 : c3 ≤ 9223372036854775807 := by unfold maxLen at hm3; omega
  have HNW := Lib.hid fun k W => MNew_any k W
  have HK := Lib.hid hkey
  have HR := Lib.hid hr
  have HR2 := Lib.hid hr2
  have HR3 := Lib.hid hr3
  have HX := Lib.hid hx
  have HX2 := Lib.hid hx2
  have HX3 := Lib.hid hx3
  have HD := Lib.hid hD
  have HPW := Lib.hid hP
  have HM := Lib.hid hm
  have HZ := Lib.hid hz
  have HG2 := Lib.hid g2
  have HG3 := Lib.hid g3
  -- the closed fact
  have q0 : shK [hiE] 7 1 = 0 := shK_ok hi_ok (by decide) (by decide)
  obtain ⟨p1, p2, p3, p4⟩ := sh_parts q0
  obtain ⟨hh, hhh⟩ : ∃ x, shH [hiE] 7 1 = x := ⟨_, rfl⟩
  have HS1 : Hid (∀ W ad c0, Ext w W → Rd W 2 (some ad) 1 c0 [.int .i64 3, .string ⟨#[104, 105]⟩] → c0 ≤ maxLen → Calls Tryd.prog 20 #[.slice (some ad) 1 c0, .int .i64 7, .int .i64 1] W fun e w' => e = .returned (.tuple #[hh.val, .nilIface]) ∧ Ext W w') := Lib.hid fun W ad c0 e hR hc => by
    have := SHead_any (some ad) 1 c0 [hiE] 7 1 W hR hc (hD.ext e) (hP.ext e)
    rw [q0, hhh] at this
    exact this
  rw [hhh] at p2 p3
  have p5 : hh.size = 1 := by rw [p2]; rfl
  have p6 : hh.root = ofL (([hiE].take 1).map Ent.leaf) := by rw [p2]; rfl
  have M1 : (Mi.new 7).hear ⟨1, hh, [], []⟩ = (pg 7 [hiE] 0 hd00 hh 0, 0) := by
    rw [st_new 7 [hiE]]; exact st_hear (by omega) p3 (by rw [p5]; decide)
  have M2 : (pg 7 [hiE] 0 hd00 hh 0).want = ⟨2, 0, 1⟩ := pg_want (o := 0) (a := 0) (t := 1) (by omega) (by omega) (by decide) (by rw [p5]; rfl)
  have M3 : (pg 7 [hiE] 0 hd00 hh 0).hear ⟨2, hd00, [hiE], []⟩ = (st 7 [hiE] 1 hh, 0) := by
    have := pg_hear (key := 7) (es := [hiE]) (hd := hd00) (h := hh) (o := 0) (a := 0) (t := 1) (b := 1) (hh := hd00) (ps := []) (by omega) (by omega) (by decide) (by rw [p5]; rfl) p1 p6 (by decide)
    exact this
  have HM1 := Lib.hid M1
  have HM2 := Lib.hid M2
  have HM3 := Lib.hid M3
  clear hkey hr hr2 hr3 hx hx2 hx3 hD hP hm hm2 hm3 hz g2 g3 q0 p1 p2 p3 p4 p5 p6 M1 M2 M3 hhh
  obtain ⟨h0, h1, h2, h3⟩ := hh
  simp only [Hd.val] at HS1
  -- where mirrors lie
  obtain ⟨P, hPdef⟩ : ∃ P : Nat → Prop, P = fun g => w.heap.size ≤ g := ⟨_, rfl⟩
  have HPN : Hid (∀ W, Ext w W → ∀ g, W.heap.size ≤ g → P g) := Lib.hid fun W k g hg => by rw [hPdef]; have := k.size; show w.heap.size ≤ g; omega
  have HPE : Hid (∀ W W', Ext w W → Chg W W' P → Ext w W') := Lib.hid fun W W' e k => k.extW e fun g hg hp => by
    rw [hPdef] at hp
    have hp' : w.heap.size ≤ g := hp
    omega
  have HPG : Hid (∀ g, w.heap.size ≤ g → P g) := Lib.hid fun g hg => by rw [hPdef]; exact hg
  clear hPdef
  go_enter Tryd.func4, Tryd.ntmps4
  go_wp2_with fail
  refine (HNW.out 7 _).mono ?_
  rintro _ w1 hnew
  rcases hnew with ⟨h1', _⟩ | ⟨_, rfl, hmi, hb1⟩
  · exact absurd h1' (by decide)
  rw [errR_0]
  have HMI := Lib.hid hmi
  have E1 := Lib.hid hb1
  obtain ⟨m1, hm1⟩ : ∃ x, w.heap.size = x := ⟨_, rfl⟩
  rw [hm1] at HMI
  rw [hm1]
  have HMW := Lib.hid hm1
  clear hmi hb1 hm1
  have rP : Rd (w1.alloc (.cells #[.int .i64 3, .string ⟨#[104, 105]⟩] 56)) 2 (some ⟨w1.heap.size, 0, none⟩) 1 1 [.int .i64 3, .string ⟨#[104, 105]⟩] :=
    ⟨rfl, Nat.le_refl _, fun _ => ⟨_, rfl, by simp, fun j u hu => news_new w1 56 [.int .i64 3, .string ⟨#[104, 105]⟩] _ rfl j u hu⟩⟩
  have HRP := Lib.hid rP
  have HE2 := Lib.hid (E1.out.alloc (.cells #[.int .i64 3, .string ⟨#[104, 105]⟩] 56))
  clear rP
  go_wp2_with fail
  refine (HS1.out _ _ _ HE2.out HRP.out (by simp only [maxLen]; omega)).mono ?_
  rintro _ w2 ⟨rfl, hb2⟩
  have B4 := Bk.at_ w2 52 #[.int .i64 h0, .int .i64 h1, .int .i64 h2, .int .i64 h3] w2.heap.size rfl
  have e1w4 : Ext w1 (w2.alloc (.cells #[.int .i64 h0, .int .i64 h1, .int .i64 h2, .int .i64 h3] 52)) := (((Ext.refl w1).alloc _).trans hb2).alloc _
  have HE4 := Lib.hid (E1.out.trans e1w4)
  have HMM : Hid (MM 85 (w2.alloc (.cells #[.int .i64 h0, .int .i64 h1, .int .i64 h2, .int .i64 h3] 52)) P m1 (Mi.new 7)) := Lib.hid ⟨_, _, HMI.out.ext e1w4, fun g hg => by
    rcases hg with rfl | hg | hg
    · exact HPG.out _ (by rw [HMW.out]; exact Nat.le_refl _)
    · simp [Value.ownBlock] at hg
    · simp [Value.ownBlock] at hg⟩
  go_upto_region 5 with (fail)
  generalize w2.alloc (.cells #[.int .i64 h0, .int .i64 h1, .int .i64 h2, .int .i64 h3] 52) = W4 at *
  generalize w2.heap.size = g4 at *
  have y0 := B4.cell 0
  have y1 := B4.cell 1
  have y2 := B4.cell 2
  have y3 := B4.cell 3
  have HH1 := Lib.hid (Hear_any P m1 (Mi.new 7) ⟨1, ⟨h0, h1, h2, h3⟩, [], []⟩ none 0 0 none 0 0 W4 HMM.out (HPN.out _ HE4.out) (HD.out.ext HE4.out) (HPW.out.ext HE4.out) (Rd.nil _ _ _ _) (Nat.zero_le _) (Rd.nil _ _ _ _) (Nat.zero_le _))
  rw [HM1.out] at HH1
  clear hb2 e1w4 B4 HRP HE2 HMI E1 HS1
  go_wp2_with fail
  refine HH1.out.mono ?_
  rintro _ w5 ⟨rfl, hm5, hg5⟩
  dsimp only at hm5
  rw [errR_0]
  have HM5 := Lib.hid hm5
  have HE5 := Lib.hid (HPE.out _ _ HE4.out hg5)
  have hw5 := hm5.want
  rw [HM2.out] at hw5
  have HW5 : Hid (Calls Tryd.prog 22 #[.pointer (some ⟨m1, 0, none⟩)] w5 fun e w' => e = .returned (.agg #[.int .i64 2, .int .i64 0, .int .i64 1]) ∧ Ext w5 w') := Lib.hid hw5
  clear hm5 hg5 hw5 y0 y1 y2 y3 HH1 HMM HE4
  go_wp2_with fail
  refine HW5.out.mono ?_
  rintro _ w6 ⟨rfl, hb6⟩
  have HE6 := Lib.hid (HE5.out.trans hb6)
  have HM6 := Lib.hid (HM5.out.ext hb6)
  clear hb6 HW5 HM5 HE5
  have rP : Rd (w6.alloc (.cells #[.int .i64 3, .string ⟨#[104, 105]⟩] 56)) 2 (some ⟨w6.heap.size, 0, none⟩) 1 1 [.int .i64 3, .string ⟨#[104, 105]⟩] :=
    ⟨rfl, Nat.le_refl _, fun _ => ⟨_, rfl, by simp, fun j u hu => news_new w6 56 [.int .i64 3, .string ⟨#[104, 105]⟩] _ rfl j u hu⟩⟩
  have HE7 := Lib.hid (HE6.out.alloc (.cells #[.int .i64 3, .string ⟨#[104, 105]⟩] 56))
  have HH2 := Lib.hid (Hear_any P m1 (pg 7 [hiE] 0 hd00 ⟨h0, h1, h2, h3⟩ 0) ⟨2, hd00, [hiE], []⟩ (some ⟨w6.heap.size, 0, none⟩) 1 1 none 0 0 _ (HM6.out.ext ((Ext.refl _).alloc _)) (HPN.out _ HE7.out) (HD.out.ext HE7.out) (HPW.out.ext HE7.out) rP (by simp only [maxLen]; omega) (Rd.nil _ _ _ _) (Nat.zero_le _))
  rw [HM3.out] at HH2
  clear rP
  go_wp2_with fail
  refine HH2.out.mono ?_
  rintro _ w8 ⟨rfl, hm8, hg8⟩
  dsimp only at hm8
  rw [errR_0]
  have HE8 := Lib.hid (HPE.out _ _ HE7.out hg8)
  have HS8 : Hid (Calls Tryd.prog 23 #[.pointer (some ⟨m1, 0, none⟩)] w8 fun e w' => e = .returned (.int .i64 1) ∧ w8 = w') := Lib.hid hm8.sizeC
  clear hm8 hg8 HH2 HM6 HE6 HE7
  go_wp2_with fail
  refine HS8.out.mono ?_
  rintro _ _ ⟨rfl, rfl⟩
  clear HS8 HM1 HM2 HM3 HMW
  go_wp2_with fail
  refine (HNW.out key _).mono ?_
  rintro _ w9 hnew
  rcases hnew with ⟨h1', _⟩ | ⟨_, rfl, hmi, hb9⟩
  · rw [HK.out] at h1'; cases h1'
  rw [errR_0]
  have hE9 := HE8.out.trans hb9
  have hsz8 := HE8.out.size
  have hlt9 := hmi.bk.lt
  have HI0 : Hid (TrI w w9 w8.heap.size (Mi.new key) w9.heap.size none 0 0 key) := Lib.hid ⟨hE9, ⟨_, _, hmi, fun g hg => by
    rcases hg with rfl | hg | hg
    · exact ⟨hsz8, hlt9⟩
    · simp [Value.ownBlock] at hg
    · simp [Value.ownBlock] at hg⟩, Nat.le_refl _, fun h => absurd h (by omega), Rd.nil _ _ _ _, Nat.zero_le _, Mi.Tr.new key, rfl⟩
  obtain ⟨mb, hmb⟩ : ∃ x, w8.heap.size = x := ⟨_, rfl⟩
  rw [hmb] at HI0
  rw [hmb]
  clear hmi hb9 hmb hE9 hsz8 hlt9 HNW HE8
  go_wp2_with fail
  go_loopw [15, 16] (fun v x wr => ∃ (i k N c0 : Nat) (Ah : Option Addr) (m : Mi), v = .slice Ah k c0 ∧ x = .int .i64 i ∧ i ≤ 60 ∧ i ≤ n2 ∧ Hid (TrI w wr mb m N Ah k c0 key)) (fun _ y _ => 60 - (intOf y).toNat)
  case atStart => exact ⟨0, 0, w9.heap.size, 0, none, Mi.new key, rfl, rfl, Nat.zero_le _, Nat.zero_le _, HI0⟩
  case round =>
    obtain ⟨i, k, N, c0, Ah, m, rfl, rfl, hi60, hin, HI⟩ := hrel
    obtain ⟨wo, rfl⟩ : ∃ W, W = wr := ⟨_, rfl⟩
    by_cases hc : i < n2 ∧ i < 60
    case neg =>
      have hc' : (¬ (i : Int) < (n2 : Int)) ∨ ((i : Int) < (n2 : Int) ∧ ¬ (i : Int) < 60) := by omega
      clear hc
      rcases hc' with h | ⟨h, h2⟩
      all_goals
        go_wp2_with fail
        go_ret
        exact ⟨rfl, HI.out.ext⟩
    obtain ⟨hc1, hc2⟩ := hc
    have hc1' : (i : Int) < (n2 : Int) := by omega
    have hc2' : (i : Int) < 60 := by omega
    have hgr := List.getElem?_eq_getElem (l := rs) (i := i) (by rw [HX2.out]; exact hc1)
    have hrg := HG2.out _ (List.mem_of_getElem? hgr)
    generalize rs[i]'(by rw [HX2.out]; exact hc1) = rw_ at *
    obtain ⟨ad2, rfl, hb2, cr2⟩ := HR2.out.getRow hgr
    obtain ⟨rA, rn, rc, rx⟩ := rw_
    obtain ⟨hrl, hrm, hrr, -⟩ := hrg
    dsimp only at hrl hrm hrr cr2
    have HRR := Lib.hid (show Rd w 1 rA rn rc (rx.map (Value.int .i64)) from by rw [← flat_icells]; exact hrr)
    have HCR := Lib.hid cr2
    have HRL := Lib.hid hrl
    have hrn := hrr.2.1
    have hrcs : rc ≤ 9223372036854775807 := by unfold maxLen at hrm; omega
    have hb2' : (ad2.add i).block < w.heap.size := by rw [blk_add]; exact hb2
    clear hgr hrl hrm hrr cr2
    have B17 := Bk.at_ wo 31 #[.int .i64 0, .int .i64 0] wo.heap.size rfl
    have e17 : Ext wo (wo.alloc (.cells #[.int .i64 0, .int .i64 0] 31)) := (Ext.refl _).alloc _
    go_upto_region 17 with (fail)
    generalize wo.alloc (.cells #[.int .i64 0, .int .i64 0] 31) = W17 at *
    obtain ⟨g17, hg17⟩ : ∃ g, wo.heap.size = g := ⟨_, rfl⟩
    rw [hg17] at B17
    try rw [hg17]
    have HG17 := Lib.hid hg17
    have HB17 := Lib.hid B17
    have HE17 := Lib.hid e17
    clear hg17 B17 e17
    -- the step's two numbers
    go_upto_block 2 with (fail)
    go_cut [18] (fun _ wc => ∃ a b : Int, Hid (Bk wc g17 31 #[.int .i64 a, .int .i64 b]) ∧ Hid (Ext wo wc))
    case first =>
      as_aux_lemma =>
      go_wp2_with fail
      go_loopw [18] (fun x wr => ∃ (j : Nat) (a b : Int), x = .int .i64 j ∧ j ≤ 2 ∧ j ≤ rn ∧ Hid (Bk wr g17 31 #[.int .i64 a, .int .i64 b]) ∧ Hid (Ext wo wr)) (fun x _ => 2 - (intOf x).toNat)
      case atStart => exact ⟨0, 0, 0, rfl, by omega, by omega, HB17, HE17⟩
      case round =>
        obtain ⟨j, a, b, rfl, hj2, hjn, HBv, HEv⟩ := hrel
        have ev := HI.out.ext.trans HEv.out
        have cr2 := (ev.cell hb2').trans HCR.out
        by_cases hq : j < rn ∧ j < 2
        case neg =>
          have hq' : (¬ (j : Int) < (rn : Int)) ∨ ((j : Int) < (rn : Int) ∧ ¬ (j : Int) < 2) := by omega
          clear hq
          rcases hq' with h | ⟨h, h'⟩
          all_goals
            go_wp2_with fail
            go_meet
            exact ⟨a, b, HBv, HEv⟩
        obtain ⟨hq1, hq2⟩ := hq
        have hq1' : (j : Int) < (rn : Int) := by omega
        have hq2' : (j : Int) < 2 := by omega
        have hgz := List.getElem?_eq_getElem (l := rx) (i := j) (by rw [HRL.out]; exact hq1)
        generalize rx[j]'(by rw [HRL.out]; exact hq1) = z at *
        obtain ⟨adz, hAz, hbz, cz⟩ := (HRR.out.ext ev).getI hgz
        subst hAz
        have hgj : g17 < wr.heap.size := HBv.out.lt
        have hj01 : j = 0 ∨ j = 1 := by omega
        obtain ⟨u, kj⟩ : ∃ u : Int, wr.cell? ⟨g17, j, none⟩ = some (.int .i64 u) := by
          rcases hj01 with rfl | rfl
          · exact ⟨a, HBv.out.cell 0⟩
          · exact ⟨b, HBv.out.cell 1⟩
        have fj := HBv.out.frozen j
        have HN' : Hid (∃ a' b' : Int, (#[.int .i64 a, .int .i64 b] : Array Value).setIfInBounds j (.int .i64 z) = #[.int .i64 a', .int .i64 b']) := by
          rcases hj01 with rfl | rfl
          · exact ⟨z, b, rfl⟩
          · exact ⟨a, z, rfl⟩
        have hge : wo.heap.size ≤ g17 := by rw [HG17.out]; exact Nat.le_refl _
        clear hgz hj01
        go_wp2_with fail
        go_roundw
        case rel =>
          obtain ⟨a', b', h'⟩ := HN'.out
          exact ⟨j + 1, a', b', by go_num, by omega, by omega, Lib.hid (by have := HBv.out.set_ j (.int .i64 z); rw [h'] at this; exact this), Lib.hid (HEv.out.setCell (p := ⟨g17, j, none⟩) hge _)⟩
        case measure => simp [intOf]; omega
    case rest =>
    as_aux_lemma =>
    obtain ⟨a, b, HB17', HE18⟩ := hcut
    obtain ⟨w18, rfl⟩ : ∃ W, W = wc := ⟨_, rfl⟩
    have B19 := Bk.at_ w18 59 #[.int .i64 0, .int .i64 0, .int .i64 0, .int .i64 0, .int .i64 0, .slice none 0 0, .slice none 0 0] w18.heap.size rfl
    have e19 : Ext w18 (w18.alloc (.cells #[.int .i64 0, .int .i64 0, .int .i64 0, .int .i64 0, .int .i64 0, .slice none 0 0, .slice none 0 0] 59)) := (Ext.refl _).alloc _
    have hge19 := HE18.out.size
    clear HB17 HE17
    go_upto_region 22 with (fail)
    generalize w18.alloc (.cells #[.int .i64 0, .int .i64 0, .int .i64 0, .int .i64 0, .int .i64 0, .slice none 0 0, .slice none 0 0] 59) = W19 at *
    obtain ⟨g19, hg19⟩ : ∃ g, w18.heap.size = g := ⟨_, rfl⟩
    rw [hg19] at B19 hge19
    try rw [hg19]
    have B17' := HB17'.out.ext e19
    have v0 := B17'.cell 0
    have v1 := B17'.cell 1
    have HE19 := Lib.hid (HE18.out.trans e19)
    have HB19 := Lib.hid B19
    have HB17 := Lib.hid B17'
    clear B19 B17' e19 hg19 HB17' HE18
    go_cut [129] (fun bv wc => bv = .bool (decide (0 ≤ a ∧ a ≤ (n : Int) ∧ 0 ≤ b ∧ a ≤ 200)) ∧ wc = W19)
    case first =>
      as_aux_lemma =>
      have h5 : a < 0 ∨ (0 ≤ a ∧ (n : Int) < a) ∨ (0 ≤ a ∧ a ≤ (n : Int) ∧ b < 0) ∨ (0 ≤ a ∧ a ≤ (n : Int) ∧ 0 ≤ b ∧ 200 < a) ∨ (0 ≤ a ∧ a ≤ (n : Int) ∧ 0 ≤ b ∧ a ≤ 200) := by omega
      rcases h5 with k1 | ⟨k1, k2⟩ | ⟨k1, k2, k3⟩ | ⟨k1, k2, k3, k4⟩ | ⟨k1, k2, k3, k4⟩
      · go_wp2_with fail
        go_meet
        exact ⟨congrArg Value.bool (decide_eq_false (by omega)).symm, rfl⟩
      · go_wp2_with fail
        go_meet
        exact ⟨congrArg Value.bool (decide_eq_false (by omega)).symm, rfl⟩
      · go_wp2_with fail
        go_meet
        exact ⟨congrArg Value.bool (decide_eq_false (by omega)).symm, rfl⟩
      · go_wp2_with fail
        go_meet
        exact ⟨congrArg Value.bool (by have h1 : ¬ a ≤ 200 := by omega
                                       simp [h1]), rfl⟩
      · go_wp2_with fail
        go_meet
        exact ⟨congrArg Value.bool (decide_eq_true (by omega)).symm, rfl⟩
    case rest =>
    as_aux_lemma =>
    obtain ⟨rfl, hwc⟩ := hcut
    obtain rfl : W19 = wc := hwc.symm
    obtain ⟨ok, hok⟩ : ∃ k : Bool, decide (0 ≤ a ∧ a ≤ (n : Int) ∧ 0 ≤ b ∧ a ≤ 200) = k := ⟨_, rfl⟩
    rw [hok]
    have HOK := Lib.hid hok
    clear hok
    have HRI : Hid (N ≤ wo.heap.size) := Lib.hid HI.out.nle
    obtain ⟨wh, fr, to_, hwant, hwh, hfr, hto⟩ := Mi.want_nat HI.out.tr.good
    have HWN : Hid (∀ W, Ext wo W → Calls Tryd.prog 22 #[.pointer (some ⟨mb, 0, none⟩)] W fun e w' => e = .returned (.agg #[.int .i64 wh, .int .i64 fr, .int .i64 to_]) ∧ Ext W w') := Lib.hid fun W e => by
      have := (HI.out.mm.ext e).want
      rw [hwant] at this
      exact this
    clear hwant
    go_upto_if 129 with (fail)
    go_cut [] (fun wc => ∃ (r : Rp) (A5 : Option Addr) (n5 c5 : Nat) (A6 : Option Addr) (n6 c6 : Nat), Hid (Bk wc g19 59 #[.int .i64 r.what, .int .i64 r.head.size, .int .i64 r.head.root, .int .i64 r.head.time, .int .i64 r.head.sign, .slice A5 n5 c5, .slice A6 n6 c6]) ∧ Hid (Rd wc 2 A5 n5 c5 (r.ents.flatMap Ent.cells) ∧ c5 ≤ maxLen) ∧ Hid (Rd wc 1 A6 n6 c6 (r.proof.map (Value.int .i64)) ∧ c6 ≤ maxLen) ∧ Hid (Ext wo wc))
    case first =>
      as_aux_lemma =>
      have hwr := HI.out.ext
      cases ok with
      | true =>
        have hb := of_decide_eq_true HOK.out
        obtain ⟨p, rfl⟩ := Int.eq_ofNat_of_zero_le hb.1
        have hpn : p ≤ n := by omega
        have hp200 : p ≤ 200 := by omega
        have hpc : p ≤ c := by omega
        have HRP : Hid (∀ W, Ext W19 W → Calls Tryd.prog 24 #[.slice A p c, .int .i64 key, .agg #[.int .i64 wh, .int .i64 fr, .int .i64 to_], .int .i64 b] W fun e w' => (∃ v, e = .returned v ∧ RepOk W19.heap.size w' v) ∧ Ext W w') := Lib.hid fun W e => by
          refine (Replies_any A p c (es.take p) key wh fr to_ b W (RdE_take (HR.out.ext (hwr.trans (HE19.out.trans e))) hpn) HM.out hp200 (fun e he => HZ.out e (List.mem_of_mem_take he)) hwh hfr hto hb.2.2.1).mono fun e' w' hh => ⟨?_, hh.2⟩
          obtain ⟨v, h1, r, A5, n5, c5, A6, n6, c6, h2, h3, h4, h5, h6, h7, h8⟩ := hh.1
          exact ⟨v, h1, r, A5, n5, c5, A6, n6, c6, h2, h3, h4, h5, h6, fun hn ad k => Nat.le_trans e.size (h7 hn ad k), fun hn ad k => Nat.le_trans e.size (h8 hn ad k)⟩
        have hE19 := HE19.out
        clear hb
        have x0 : ∀ x : WE W19, x.W.cell? ⟨g17, 0, none⟩ = some (.int .i64 p) := fun x => (HB17.out.ext x.h).cell 0
        have x1 : ∀ x : WE W19, x.W.cell? ⟨g17, 1, none⟩ = some (.int .i64 b) := fun x => (HB17.out.ext x.h).cell 1
        go_wp2_with fail
        (refine wp_region_ext_tail (w0 := W19) 9 (by kernel_rfl) (by kernel_rfl) (by (repeat (with_reducible first | exact Ext.refl _ | assumption | refine Ext.drew ?_ | refine Ext.drewN ?_ _ | refine Ext.alloc ?_ _ | refine Ext.trans ?_ (by with_reducible assumption)))) ?_; simp only [List.take_succ_cons, List.take_zero, List.drop_succ_cons, List.drop_zero]; (repeat (go_big_quiet_step (((go_at_call 22; exact quietE (HWN.out _ (HE19.out.trans (WE.h _)))))))); refine wpQuiet_nil ?_)
        rintro _ ⟨xq, rfl⟩
        obtain ⟨x4, hx4⟩ : ∃ w, xq.W = w := ⟨_, rfl⟩
        have hxe : Ext W19 x4 := by rw [← hx4]; exact xq.h
        rw [hx4]
        clear hx4 x0 x1 v0 v1
        go_wp2_with fail
        refine (HRP.out _ hxe).mono ?_
        rintro _ x5 ⟨⟨_, rfl, ⟨rp, A5, n5, c5, A6, n6, c6, rfl, r1, r2, r3, r4, r5, r6⟩⟩, hx5⟩
        have HE5 := Lib.hid (hxe.trans hx5)
        have HB5 := Lib.hid (HB19.out.ext HE5.out)
        have HR5 := Lib.hid r1
        have HR6 := Lib.hid r2
        have HR7 := Lib.hid r3
        have HR8 := Lib.hid r4
        have HR9 := Lib.hid r5
        have HR10 := Lib.hid r6
        have HLT := Lib.hid HB19.out.lt
        clear r1 r2 r3 r4 r5 r6 hx5 hxe
        obtain ⟨rw_, ⟨d0, d1, d2, d3⟩, re, rp_⟩ := rp
        dsimp only [replyV]
        go_wp2_with (refine wpl_store7 (by rfl) 59 _ _ (by rfl) g19 59 _ _ _ _ _ _ _ rw_ d0 d1 d2 d3 A5 A6 n5 c5 n6 c6 (by rfl) (by rfl) Tryd.sizeOf59 HB5.out ?_; intro x6 k1 k2; have K1 := Lib.hid k1; have K2 := Lib.hid k2; clear k1 k2)
        go_meet
        exact ⟨⟨rw_, ⟨d0, d1, d2, d3⟩, re, rp_⟩, A5, n5, c5, A6, n6, c6, K1, Lib.hid ⟨HR5.out.kept K2.out (fun hn ad e k => by
          have h1 := HR9.out hn ad e
          have h2 := HLT.out
          injection k with k
          omega), HR6.out⟩, Lib.hid ⟨HR7.out.kept K2.out (fun hn ad e k => by
          have h1 := HR10.out hn ad e
          have h2 := HLT.out
          injection k with k
          omega), HR8.out⟩, Lib.hid ((HE19.out.trans HE5.out).gbn K2.out hge19)⟩
      | false =>
        clear v0 v1
        by_cases hn3 : 0 < n3
        case neg =>
          obtain rfl : n3 = 0 := by omega
          go_wp2_with fail
          go_meet
          exact ⟨⟨0, ⟨0, 0, 0, 0⟩, [], []⟩, none, 0, 0, none, 0, 0, HB19, Lib.hid ⟨Rd.nil _ _ _ _, Nat.zero_le _⟩, Lib.hid ⟨Rd.nil _ _ _ _, Nat.zero_le _⟩, HE19⟩
        have hn3I : (0 : Int) < (n3 : Int) := by omega
        obtain ⟨jj, hjj⟩ : ∃ jj, i % n3 = jj := ⟨_, rfl⟩
        have hjl : jj < n3 := by rw [← hjj]; exact Nat.mod_lt _ hn3
        have hjm : ((i : Int) % (n3 : Int)) = (jj : Int) := by rw [← hjj]; omega
        have hgp := List.getElem?_eq_getElem (l := ps) (i := jj) (by rw [HX3.out]; exact hjl)
        have hgd := HG3.out _ (List.mem_of_getElem? hgp)
        generalize ps[jj]'(by rw [HX3.out]; exact hjl) = rr at *
        obtain ⟨ad3, hA3, hb3, hcp⟩ := HR3.out.getRp hgp
        subst hA3
        have hev : Ext w W19 := hwr.trans HE19.out
        obtain ⟨c0', c1', c2', c3', c4', c5', c6'⟩ := hcp.ext hev (by rw [blk_add]; exact hb3)
        obtain ⟨⟨gl1, gl2, gl3, -⟩, ⟨gm1, gm2, gm3, -⟩⟩ := hgd
        have HL3 := Lib.hid (gl3.ext hev)
        have HM3 : Hid (Rd W19 1 rr.proof.A rr.proof.n rr.proof.c (rr.proof.xs.map (Value.int .i64))) := Lib.hid (by rw [← flat_icells]; exact gm3.ext hev)
        have HL2 := Lib.hid gl2
        have HM2 := Lib.hid gm2
        have hlt19 : ad3.block < g19 := by have := hev.size; have := hwr.size; omega
        have HL9 : Hid (0 < rr.ents.n → ∀ ad, rr.ents.A = some ad → ad.block < w.heap.size) := Lib.hid gl3.blk
        have HM9 : Hid (0 < rr.proof.n → ∀ ad, rr.proof.A = some ad → ad.block < w.heap.size) := Lib.hid gm3.blk
        have hw19 : w.heap.size ≤ g19 := by have := hwr.size; omega
        obtain ⟨rw_, ⟨d0, d1, d2, d3⟩, ⟨A5, n5, c5, re⟩, ⟨A6, n6, c6, rp_⟩⟩ := rr
        dsimp only at c0' c1' c2' c3' c4' c5' c6' HL3 HM3 HL2 HM2 HL9 HM9
        clear hgp gl1 gl2 gl3 gm1 gm2 gm3 hjj
        go_wp2_with (refine wpl_store7 (by rfl) 59 _ _ (by rfl) g19 59 _ _ _ _ _ _ _ rw_ d0 d1 d2 d3 A5 A6 n5 c5 n6 c6 (by rfl) (by rfl) Tryd.sizeOf59 HB19.out ?_; intro x6 k1 k2; have K1 := Lib.hid k1; have K2 := Lib.hid k2; clear k1 k2)
        go_meet
        exact ⟨⟨rw_, ⟨d0, d1, d2, d3⟩, re, rp_⟩, A5, n5, c5, A6, n6, c6, K1, Lib.hid ⟨HL3.out.kept K2.out (fun hn ad e k => by
          have h1 := HL9.out hn ad e
          injection k with k
          omega), HL2.out⟩, Lib.hid ⟨HM3.out.kept K2.out (fun hn ad e k => by
          have h1 := HM9.out hn ad e
          injection k with k
          omega), HM2.out⟩, Lib.hid (HE19.out.gbn K2.out hge19)⟩
    case rest =>
    as_aux_lemma =>
    obtain ⟨r, A5, n5, c5, A6, n6, c6, HB20, HR5, HR6, HE20⟩ := hcut
    obtain ⟨w20, rfl⟩ : ∃ W, W = wc := ⟨_, rfl⟩
    have HEW := Lib.hid (HI.out.ext.trans HE20.out)
    -- where the mirror lies while it hears
    obtain ⟨Q, HQ⟩ : ∃ Q : Nat → Prop, Hid (MM 85 w20 Q mb m ∧ (∀ g, w20.heap.size ≤ g → Q g) ∧ (∀ g, Q g → w.heap.size ≤ g) ∧ (0 < k → ∀ ad, Ah = some ad → ¬ Q ad.block)) := by
      refine ⟨fun g => (w.heap.size ≤ g ∧ g < N) ∨ w20.heap.size ≤ g, Lib.hid ⟨(HI.out.mm.ext HE20.out).mono fun g hg _ => .inl hg, fun g hg => .inr hg, fun g hg => ?_, fun hk ad e hg => ?_⟩⟩
      · rcases hg with hg | hg
        · exact hg.1
        · have := HEW.out.size; omega
      · have h1 := HI.out.far hk ad e
        have h2 := HI.out.rd.blk hk ad e
        have h3 := HE20.out.size
        rcases hg with hg | hg <;> omega
    have HRH := Lib.hid (HI.out.rd.ext HE20.out)
    have hH := Hear_any Q mb m r A5 n5 c5 A6 n6 c6 w20 HQ.out.1 HQ.out.2.1 (HD.out.ext HEW.out) (HPW.out.ext HEW.out) HR5.out.1 HR5.out.2 HR6.out.1 HR6.out.2
    have hto' := HI.out.tr.hear r
    obtain ⟨m', hm'⟩ : ∃ x, (m.hear r).1 = x := ⟨_, rfl⟩
    obtain ⟨mk, hmk⟩ : ∃ x, (m.hear r).2 = x := ⟨_, rfl⟩
    have HH : Hid (Calls Tryd.prog 21 #[.pointer (some ⟨mb, 0, none⟩), replyV r.what r.head A5 n5 c5 A6 n6 c6] w20 fun e w' => e = .returned (errR mk) ∧ MM 85 w' Q mb m' ∧ Chg w20 w' Q) := Lib.hid (by
      unfold MPost at hH
      rw [hm', hmk] at hH
      exact hH)
    rw [hm'] at hto'
    have HTO := Lib.hid hto'
    obtain ⟨lx, hlx⟩ := hto'.own
    have HLX := Lib.hid hlx
    have hkl : m.own.length = k := HI.out.rd.lenE
    obtain ⟨k', hk'⟩ : ∃ x, m'.own.length = x := ⟨_, rfl⟩
    have hkk : k ≤ k' := by rw [← hk', hlx, List.length_append, hkl]; omega
    have HK' := Lib.hid hk'
    have HKL := Lib.hid hkl
    have hgood := hto'.tr.good
    have hk200 : k' ≤ 200 := by rw [← hk']; exact hgood.own_le
    have y0 := HB20.out.cell 0
    have y1 := HB20.out.cell 1
    have y2 := HB20.out.cell 2
    have y3 := HB20.out.cell 3
    have y4 := HB20.out.cell 4
    have y5 := HB20.out.cell 5
    have y6 := HB20.out.cell 6
    obtain ⟨rw_, ⟨d0, d1, d2, d3⟩, re, rp_⟩ := r
    dsimp only [replyV] at HH y0 y1 y2 y3 y4 y5 y6
    clear hH hm' hmk hlx hk' hkl hto' hgood HR5 HR6 HB20 HOK HWN HB17 HB19 HE19 hwh hfr hto hge19 HRI HRL HCR HRR
    go_wp2_with fail
    refine HH.out.mono ?_
    rintro _ w21 ⟨rfl, hm21, hg21⟩
    have HM21 : Hid (MM 85 w21 (fun g => w.heap.size ≤ g ∧ g < w21.heap.size) mb m') := Lib.hid (hm21.mono fun g hg hl => ⟨HQ.out.2.2.1 g hg, hl⟩)
    have HE21 : Hid (Ext w w21) := Lib.hid (hg21.extW HEW.out fun g hg hp => by have := HQ.out.2.2.1 g hp; omega)
    have HRH21 : Hid (Rd w21 2 Ah k c0 (m.own.flatMap Ent.cells)) := Lib.hid (HRH.out.chg hg21 HQ.out.2.2.2)
    have hen := HM21.out.entriesC
    rw [HK'.out] at hen
    have HEN := Lib.hid hen
    clear hm21 hg21 hen HH HRH HQ HEW HE20 y0 y1 y2 y3 y4 y5 y6
    go_wp2_with fail
    refine HEN.out.mono ?_
    rintro _ w22 ⟨⟨v22, rfl, own22⟩, hb22⟩
    obtain ⟨A22, c22, rfl, hc22, R22, -⟩ := own_rd own22
    have HR22 := Lib.hid R22
    have HE22 := Lib.hid (HE21.out.trans hb22)
    have HM22 := Lib.hid (HM21.out.ext hb22)
    have HRH22 := Lib.hid (HRH21.out.ext hb22)
    have HFAR : Hid (0 < k' → ∀ ad, A22 = some ad → w21.heap.size ≤ ad.block) := Lib.hid fun _ ad e => own_block own22 ad.block (by rw [e]; rfl)
    have HNLE := Lib.hid hb22.size
    have hkc := R22.2.1
    have hc22s : c22 ≤ 9223372036854775807 := by unfold maxLen at hc22; omega
    have HC22 := Lib.hid hc22
    have hkkI : ¬ (k' : Int) < (k : Int) := by omega
    have hkc' : k ≤ c22 := by omega
    have HSM : Hid (∀ W, Ext w22 W → Calls Tryd.prog 26 #[.slice A22 k c22, .slice Ah k c0] W fun e w' => e = .returned (.bool true) ∧ Ext W w') := Lib.hid fun W e => by
      have h1 : m'.own.take k = m.own := by rw [HLX.out, List.take_append_of_le_length (by rw [HKL.out]; exact Nat.le_refl _), List.take_of_length_le (by rw [HKL.out]; exact Nat.le_refl _)]
      have h2 := RdE_take HR22.out hkk
      rw [h1] at h2
      exact Entries_yes A22 Ah k c22 c0 m.own W (h2.ext e) (HRH22.out.ext e) (by omega)
    have HGOOD := Lib.hid HTO.out.tr.good
    have HST : Hid (∀ W, Ext w22 W → Calls Tryd.prog 23 #[.pointer (some ⟨mb, 0, none⟩)] W fun e w' => e = .returned (.int .i64 k') ∧ W = w') := Lib.hid fun W e => by
      have := (HM22.out.ext e).sizeC
      rwa [HK'.out] at this
    clear own22 R22 hb22 hc22 HEN HE21 HRH21 HM21
    go_wp2_with fail
    refine (HSM.out _ (Ext.refl _)).mono ?_
    rintro _ w23 ⟨rfl, hb23⟩
    have HF23 := Lib.hid hb23
    clear hb23 HSM
    go_wp2_with fail
    refine (HST.out _ HF23.out).mono ?_
    rintro _ _ ⟨rfl, rfl⟩
    have HNEW : Hid (∀ W, Ext w22 W → TrI w W mb m' w21.heap.size A22 k' c22 key) := Lib.hid fun W e => ⟨HE22.out.trans e, HM22.out.ext e, Nat.le_trans HNLE.out e.size, HFAR.out, HR22.out.ext e, HC22.out, HTO.out.tr, HTO.out.key.trans HI.out.key⟩
    by_cases hk0 : k' = 0
    · subst hk0
      go_wp2_with fail
      go_roundw
      case rel => exact ⟨i + 1, 0, w21.heap.size, c22, A22, m', rfl, by go_num, by omega, by omega, Lib.hid (HNEW.out _ HF23.out)⟩
      case measure => simp [intOf]; omega
    have hne : m'.own ≠ [] := fun e => hk0 (by rw [← HK'.out, e]; rfl)
    obtain ⟨hsg1, hsg2⟩ := HTO.out.tr.sg hne
    have hkey : m'.key = key := HTO.out.key.trans HI.out.key
    rw [hkey] at hsg2
    have hhs : m'.head.size = (k' : Int) := by rw [HGOOD.out.size, HK'.out]
    have hkb : ((k' : Int) == 0) = false := beq_eq_false_iff_ne.2 (by omega)
    have HHD : Hid (∀ W, Ext w22 W → Calls Tryd.prog 27 #[.pointer (some ⟨mb, 0, none⟩)] W fun e w' => e = .returned m'.head.val ∧ Ext W w') := Lib.hid fun W e => (HM22.out.ext e).headC
    have HRT : Hid (∀ W, Ext w22 W → Calls Tryd.prog 30 #[.pointer (some ⟨mb, 0, none⟩)] W fun e w' => e = .returned (.int .i64 (rootE m'.own)) ∧ Ext W w') := Lib.hid fun W e => (HM22.out.ext e).rootC
    have HLF : Hid (∀ W, Ext w22 W → Calls Tryd.prog 28 #[.slice A22 k' c22] W fun e w' => (∃ A7 c7, e = .returned (.tuple #[.slice A7 k' c7, .nilIface]) ∧ c7 ≤ maxLen ∧ Rd w' 1 A7 k' c7 ((m'.own.map Ent.leaf).map (Value.int .i64))) ∧ Ext W w') := Lib.hid fun W e => by
      have h1 := Leafs_ok A22 k' c22 m'.own W (HR22.out.ext e) HC22.out HGOOD.out.own
      rw [HK'.out] at h1
      refine h1.mono fun e' w' hh => ?_
      obtain ⟨⟨v, q1, q2⟩, q3⟩ := hh
      obtain ⟨A7, c7, rfl, q4, q5, _⟩ := own_rd q2
      exact ⟨⟨A7, c7, q1, q4, q5⟩, q3⟩
    have HTR : Hid (∀ W A7 c7, Rd W 1 A7 k' c7 ((m'.own.map Ent.leaf).map (Value.int .i64)) → c7 ≤ maxLen → Calls Tryd.prog 29 #[.slice A7 k' c7] W fun e w' => e = .returned (.tuple #[.int .i64 (rootE m'.own), .nilIface]) ∧ Ext W w') := Lib.hid fun W A7 c7 h1 h2 => by
      have := Root_ok A7 k' c7 (m'.own.map Ent.leaf) W h1 h2 (leafs_of_ents HGOOD.out.own)
      rw [← rootE_ok HGOOD.out.own] at this
      exact this
    obtain ⟨hd, hhd⟩ : ∃ x, m'.head = x := ⟨_, rfl⟩
    obtain ⟨ro, hro⟩ : ∃ x, rootE m'.own = x := ⟨_, rfl⟩
    rw [hhd] at HHD hsg1 hsg2 hhs
    rw [hro] at HRT HTR hsg1
    have HVF : Hid (∀ W, Ext w W → Calls Tryd.prog 31 #[hd.val, .int .i64 key] W fun e w' => e = .returned .nilIface ∧ Ext W w') := Lib.hid fun W e => by
      have := Verify_any hd key W (HD.out.ext e) (HPW.out.ext e)
      rw [hsg2] at this
      exact this
    obtain ⟨e0, e1, e2, e3⟩ := hd
    dsimp only at hsg1 hhs
    subst hsg1 hhs
    simp only [Hd.val] at HHD HVF
    clear hne hsg2 hkey hhd hro hk0 HST
    go_wp2_with fail
    refine (HHD.out _ HF23.out).mono ?_
    rintro _ w24 ⟨rfl, hb24⟩
    have B24 := Bk.at_ w24 52 #[.int .i64 k', .int .i64 e1, .int .i64 e2, .int .i64 e3] w24.heap.size rfl
    have e24 : Ext w22 (w24.alloc (.cells #[.int .i64 k', .int .i64 e1, .int .i64 e2, .int .i64 e3] 52)) := (HF23.out.trans hb24).alloc _
    go_upto_region 36 with (fail)
    generalize w24.alloc (.cells #[.int .i64 k', .int .i64 e1, .int .i64 e2, .int .i64 e3] 52) = W24 at *
    generalize w24.heap.size = g24 at *
    have HB24 := Lib.hid B24
    have HF24 := Lib.hid e24
    clear hb24 e24 B24 HF23 HHD
    go_wp2_with fail
    refine (HLF.out _ HF24.out).mono ?_
    rintro _ w25 ⟨⟨A7, c7, rfl, hc7, R7⟩, hb25⟩
    have HR7 := Lib.hid R7
    have HC7 := Lib.hid hc7
    have HF25 := Lib.hid (HF24.out.trans hb25)
    have HB25 := Lib.hid (HB24.out.ext hb25)
    clear R7 hc7 hb25 HF24 HB24 HLF
    go_wp2_with fail
    refine (HTR.out _ _ _ HR7.out HC7.out).mono ?_
    rintro _ w26 ⟨rfl, hb26⟩
    have HF26 := Lib.hid (HF25.out.trans hb26)
    have HB26 := Lib.hid (HB25.out.ext hb26)
    have t0 := HB26.out.cell 0
    have t1 := HB26.out.cell 1
    clear hb26 HF25 HB25 HTR
    go_wp2_with fail
    refine (HRT.out _ HF26.out).mono ?_
    rintro _ w27 ⟨rfl, hb27⟩
    have HF27 := Lib.hid (HF26.out.trans hb27)
    have HB27 := Lib.hid (HB26.out.ext hb27)
    have HEW27 := Lib.hid (HE22.out.trans HF27.out)
    clear t0 t1 hb27 HF26 HB26 HRT
    have t0 := HB27.out.cell 0
    have t1 := HB27.out.cell 1
    have t2 := HB27.out.cell 2
    have t3 := HB27.out.cell 3
    go_wp2_with fail
    refine (HVF.out _ HEW27.out).mono ?_
    rintro _ w28 ⟨rfl, hb28⟩
    have HF28 := Lib.hid (HF27.out.trans hb28)
    clear t0 t1 t2 t3 hb28 HF27 HB27 HVF
    go_wp2_with fail
    go_roundw
    case rel => exact ⟨i + 1, k', w21.heap.size, c22, A22, m', rfl, by go_num, by omega, by omega, Lib.hid (HNEW.out _ HF28.out)⟩
    case measure => simp [intOf]; omega

set_option maxRecDepth 100000 in
set_option maxHeartbeats 8000000 in
theorem walk_no (key : Int) (A : Option Addr) (n c : Nat) (es : List Ent) (A2 : Option Addr) (n2 c2 : Nat) (rs : List (RowG Int)) (A3 : Option Addr) (n3 c3 : Nat) (ps : List RpG) (w : World)
    (hkey : keyI key = false) (hm : c ≤ maxLen) (hr : Rd w 2 A n c (es.flatMap Ent.cells)) (hz : ∀ e ∈ es, e.data.size ≤ 140737488351232) (hm2 : c2 ≤ maxLen) (hr2 : Rd w 1 A2 n2 c2 (rs.flatMap RowG.cells)) (g2 : ∀ y ∈ rs, RowG.good w 1 icells igood y)
    (hm3 : c3 ≤ maxLen) (hr3 : Rd w 7 A3 n3 c3 (ps.flatMap RpG.cells)) (g3 : ∀ y ∈ ps, RpG.good w y) (hD : DebG w) (hP : PowG w) :
    Calls Tryd.prog 4 #[.int .i64 key, .slice A n c, .slice A2 n2 c2, .slice A3 n3 c3] w fun e w' => e = .returned (.bool true) ∧ Ext w w' := by
  obtain ⟨hE, hN, hG0⟩ := errR_rules
  have hfw := field_want
  have hx := hr.lenE
  have hx2 : rs.length = n2 := by have := hr2.1; rw [flat_rows] at this; simpa using this
  have hx3 := hr3.lenP
  have hnc := hr.2.1
  have hnc2 := hr2.2.1
  have hnc3 := hr3.2.1
  have hcs : c ≤ 9223372036854775807 := by unfold maxLen at hm; omega
  have hcs2 : c2 ≤ 9223372036854775807 := by unfold maxLen at hm2; omega
  have hcs3 : c3 ≤ 9223372036854775807 := by unfold maxLen at hm3; omega
  have HNW := Lib.hid fun k W => MNew_any k W
  have HK := Lib.hid hkey
  have HR := Lib.hid hr
  have HR2 := Lib.hid hr2
  have HR3 := Lib.hid hr3
  have HX := Lib.hid hx
  have HX2 := Lib.hid hx2
  have HX3 := Lib.hid hx3
  have HD := Lib.hid hD
  have HPW := Lib.hid hP
  have HM := Lib.hid hm
  have HZ := Lib.hid hz
  have HG2 := Lib.hid g2
  have HG3 := Lib.hid g3
  -- the closed fact
  have q0 : shK [hiE] 7 1 = 0 := shK_ok hi_ok (by decide) (by decide)
  obtain ⟨p1, p2, p3, p4⟩ := sh_parts q0
  obtain ⟨hh, hhh⟩ : ∃ x, shH [hiE] 7 1 = x := ⟨_, rfl⟩
  have HS1 : Hid (∀ W ad c0, Ext w W → Rd W 2 (some ad) 1 c0 [.int .i64 3, .string ⟨#[104, 105]⟩] → c0 ≤ maxLen → Calls Tryd.prog 20 #[.slice (some ad) 1 c0, .int .i64 7, .int .i64 1] W fun e w' => e = .returned (.tuple #[hh.val, .nilIface]) ∧ Ext W w') := Lib.hid fun W ad c0 e hR hc => by
    have := SHead_any (some ad) 1 c0 [hiE] 7 1 W hR hc (hD.ext e) (hP.ext e)
    rw [q0, hhh] at this
    exact this
  rw [hhh] at p2 p3
  have p5 : hh.size = 1 := by rw [p2]; rfl
  have p6 : hh.root = ofL (([hiE].take 1).map Ent.leaf) := by rw [p2]; rfl
  have M1 : (Mi.new 7).hear ⟨1, hh, [], []⟩ = (pg 7 [hiE] 0 hd00 hh 0, 0) := by
    rw [st_new 7 [hiE]]; exact st_hear (by omega) p3 (by rw [p5]; decide)
  have M2 : (pg 7 [hiE] 0 hd00 hh 0).want = ⟨2, 0, 1⟩ := pg_want (o := 0) (a := 0) (t := 1) (by omega) (by omega) (by decide) (by rw [p5]; rfl)
  have M3 : (pg 7 [hiE] 0 hd00 hh 0).hear ⟨2, hd00, [hiE], []⟩ = (st 7 [hiE] 1 hh, 0) := by
    have := pg_hear (key := 7) (es := [hiE]) (hd := hd00) (h := hh) (o := 0) (a := 0) (t := 1) (b := 1) (hh := hd00) (ps := []) (by omega) (by omega) (by decide) (by rw [p5]; rfl) p1 p6 (by decide)
    exact this
  have HM1 := Lib.hid M1
  have HM2 := Lib.hid M2
  have HM3 := Lib.hid M3
  clear hkey hr hr2 hr3 hx hx2 hx3 hD hP hm hm2 hm3 hz g2 g3 q0 p1 p2 p3 p4 p5 p6 M1 M2 M3 hhh
  obtain ⟨h0, h1, h2, h3⟩ := hh
  simp only [Hd.val] at HS1
  -- where mirrors lie
  obtain ⟨P, hPdef⟩ : ∃ P : Nat → Prop, P = fun g => w.heap.size ≤ g := ⟨_, rfl⟩
  have HPN : Hid (∀ W, Ext w W → ∀ g, W.heap.size ≤ g → P g) := Lib.hid fun W k g hg => by rw [hPdef]; have := k.size; show w.heap.size ≤ g; omega
  have HPE : Hid (∀ W W', Ext w W → Chg W W' P → Ext w W') := Lib.hid fun W W' e k => k.extW e fun g hg hp => by
    rw [hPdef] at hp
    have hp' : w.heap.size ≤ g := hp
    omega
  have HPG : Hid (∀ g, w.heap.size ≤ g → P g) := Lib.hid fun g hg => by rw [hPdef]; exact hg
  clear hPdef
  go_enter Tryd.func4, Tryd.ntmps4
  go_wp2_with fail
  refine (HNW.out 7 _).mono ?_
  rintro _ w1 hnew
  rcases hnew with ⟨h1', _⟩ | ⟨_, rfl, hmi, hb1⟩
  · exact absurd h1' (by decide)
  rw [errR_0]
  have HMI := Lib.hid hmi
  have E1 := Lib.hid hb1
  obtain ⟨m1, hm1⟩ : ∃ x, w.heap.size = x := ⟨_, rfl⟩
  rw [hm1] at HMI
  rw [hm1]
  have HMW := Lib.hid hm1
  clear hmi hb1 hm1
  have rP : Rd (w1.alloc (.cells #[.int .i64 3, .string ⟨#[104, 105]⟩] 56)) 2 (some ⟨w1.heap.size, 0, none⟩) 1 1 [.int .i64 3, .string ⟨#[104, 105]⟩] :=
    ⟨rfl, Nat.le_refl _, fun _ => ⟨_, rfl, by simp, fun j u hu => news_new w1 56 [.int .i64 3, .string ⟨#[104, 105]⟩] _ rfl j u hu⟩⟩
  have HRP := Lib.hid rP
  have HE2 := Lib.hid (E1.out.alloc (.cells #[.int .i64 3, .string ⟨#[104, 105]⟩] 56))
  clear rP
  go_wp2_with fail
  refine (HS1.out _ _ _ HE2.out HRP.out (by simp only [maxLen]; omega)).mono ?_
  rintro _ w2 ⟨rfl, hb2⟩
  have B4 := Bk.at_ w2 52 #[.int .i64 h0, .int .i64 h1, .int .i64 h2, .int .i64 h3] w2.heap.size rfl
  have e1w4 : Ext w1 (w2.alloc (.cells #[.int .i64 h0, .int .i64 h1, .int .i64 h2, .int .i64 h3] 52)) := (((Ext.refl w1).alloc _).trans hb2).alloc _
  have HE4 := Lib.hid (E1.out.trans e1w4)
  have HMM : Hid (MM 85 (w2.alloc (.cells #[.int .i64 h0, .int .i64 h1, .int .i64 h2, .int .i64 h3] 52)) P m1 (Mi.new 7)) := Lib.hid ⟨_, _, HMI.out.ext e1w4, fun g hg => by
    rcases hg with rfl | hg | hg
    · exact HPG.out _ (by rw [HMW.out]; exact Nat.le_refl _)
    · simp [Value.ownBlock] at hg
    · simp [Value.ownBlock] at hg⟩
  go_upto_region 5 with (fail)
  generalize w2.alloc (.cells #[.int .i64 h0, .int .i64 h1, .int .i64 h2, .int .i64 h3] 52) = W4 at *
  generalize w2.heap.size = g4 at *
  have y0 := B4.cell 0
  have y1 := B4.cell 1
  have y2 := B4.cell 2
  have y3 := B4.cell 3
  have HH1 := Lib.hid (Hear_any P m1 (Mi.new 7) ⟨1, ⟨h0, h1, h2, h3⟩, [], []⟩ none 0 0 none 0 0 W4 HMM.out (HPN.out _ HE4.out) (HD.out.ext HE4.out) (HPW.out.ext HE4.out) (Rd.nil _ _ _ _) (Nat.zero_le _) (Rd.nil _ _ _ _) (Nat.zero_le _))
  rw [HM1.out] at HH1
  clear hb2 e1w4 B4 HRP HE2 HMI E1 HS1
  go_wp2_with fail
  refine HH1.out.mono ?_
  rintro _ w5 ⟨rfl, hm5, hg5⟩
  dsimp only at hm5
  rw [errR_0]
  have HM5 := Lib.hid hm5
  have HE5 := Lib.hid (HPE.out _ _ HE4.out hg5)
  have hw5 := hm5.want
  rw [HM2.out] at hw5
  have HW5 : Hid (Calls Tryd.prog 22 #[.pointer (some ⟨m1, 0, none⟩)] w5 fun e w' => e = .returned (.agg #[.int .i64 2, .int .i64 0, .int .i64 1]) ∧ Ext w5 w') := Lib.hid hw5
  clear hm5 hg5 hw5 y0 y1 y2 y3 HH1 HMM HE4
  go_wp2_with fail
  refine HW5.out.mono ?_
  rintro _ w6 ⟨rfl, hb6⟩
  have HE6 := Lib.hid (HE5.out.trans hb6)
  have HM6 := Lib.hid (HM5.out.ext hb6)
  clear hb6 HW5 HM5 HE5
  have rP : Rd (w6.alloc (.cells #[.int .i64 3, .string ⟨#[104, 105]⟩] 56)) 2 (some ⟨w6.heap.size, 0, none⟩) 1 1 [.int .i64 3, .string ⟨#[104, 105]⟩] :=
    ⟨rfl, Nat.le_refl _, fun _ => ⟨_, rfl, by simp, fun j u hu => news_new w6 56 [.int .i64 3, .string ⟨#[104, 105]⟩] _ rfl j u hu⟩⟩
  have HE7 := Lib.hid (HE6.out.alloc (.cells #[.int .i64 3, .string ⟨#[104, 105]⟩] 56))
  have HH2 := Lib.hid (Hear_any P m1 (pg 7 [hiE] 0 hd00 ⟨h0, h1, h2, h3⟩ 0) ⟨2, hd00, [hiE], []⟩ (some ⟨w6.heap.size, 0, none⟩) 1 1 none 0 0 _ (HM6.out.ext ((Ext.refl _).alloc _)) (HPN.out _ HE7.out) (HD.out.ext HE7.out) (HPW.out.ext HE7.out) rP (by simp only [maxLen]; omega) (Rd.nil _ _ _ _) (Nat.zero_le _))
  rw [HM3.out] at HH2
  clear rP
  go_wp2_with fail
  refine HH2.out.mono ?_
  rintro _ w8 ⟨rfl, hm8, hg8⟩
  dsimp only at hm8
  rw [errR_0]
  have HE8 := Lib.hid (HPE.out _ _ HE7.out hg8)
  have HS8 : Hid (Calls Tryd.prog 23 #[.pointer (some ⟨m1, 0, none⟩)] w8 fun e w' => e = .returned (.int .i64 1) ∧ w8 = w') := Lib.hid hm8.sizeC
  clear hm8 hg8 HH2 HM6 HE6 HE7
  go_wp2_with fail
  refine HS8.out.mono ?_
  rintro _ _ ⟨rfl, rfl⟩
  clear HS8 HM1 HM2 HM3 HMW
  go_wp2_with fail
  refine (HNW.out key _).mono ?_
  rintro _ w9 hnew
  rcases hnew with ⟨_, rfl, hb9⟩ | ⟨h1', _⟩
  · have hok := isOk_no (k := 1) (by decide)
    have hk2 : key < 1 ∨ (¬ key < 1 ∧ 1000000 < key) := by
      have := keyI_false HK.out
      omega
    rcases hk2 with h | ⟨h, h'⟩
    all_goals
      go_wp2_with fail
      go_ret
      exact ⟨rfl, HE8.out.trans hb9⟩
  · rw [HK.out] at h1'; cases h1'
/-- keys that are none -/
theorem walk (key : Int) (A : Option Addr) (n c : Nat) (es : List Ent) (A2 : Option Addr) (n2 c2 : Nat) (rs : List (RowG Int)) (A3 : Option Addr) (n3 c3 : Nat) (ps : List RpG) (w : World)
    (gk : igood key) (hl : es.length = n) (hm : c ≤ maxLen) (hr : Rd w 2 A n c (es.flatMap Ent.cells)) (ge : ∀ y ∈ es, y.good) (hz : ∀ e ∈ es, e.data.size ≤ 140737488351232) (hl2 : rs.length = n2) (hm2 : c2 ≤ maxLen) (hr2 : Rd w 1 A2 n2 c2 (rs.flatMap RowG.cells)) (g2 : ∀ y ∈ rs, RowG.good w 1 icells igood y)
    (hl3 : ps.length = n3) (hm3 : c3 ≤ maxLen) (hr3 : Rd w 7 A3 n3 c3 (ps.flatMap RpG.cells)) (g3 : ∀ y ∈ ps, RpG.good w y) (hD : DebG w) (hP : PowG w) :
    Calls Tryd.prog 4 #[.int .i64 key, .slice A n c, .slice A2 n2 c2, .slice A3 n3 c3] w fun e w' => e = .returned (.bool true) ∧ Ext w w' := by
  cases hk : keyI key with
  | true => exact walk_yes key A n c es A2 n2 c2 rs A3 n3 c3 ps w hk hm hr hz hm2 hr2 g2 hm3 hr3 g3 hD hP
  | false => exact walk_no key A n c es A2 n2 c2 rs A3 n3 c3 ps w hk hm hr hz hm2 hr2 g2 hm3 hr3 g3 hD hP
end Go.Proofs.YtmknpehjncpekaaDoor.mirrorTrusts
