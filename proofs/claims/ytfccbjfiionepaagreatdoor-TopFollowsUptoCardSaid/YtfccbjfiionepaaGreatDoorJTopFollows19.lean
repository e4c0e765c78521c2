/- witsame.Entries, whatever the entries. -/
import Derived.Test.YtfccbjfiionepaaGreatDoorJTopFollows10
import Derived.Lib.SlicesS
import Derived.Test.YtfccbjfiionepaaGreatDoorJTopFollows17
import Derived.Test.YtfccbjfiionepaaGreatDoorJTopFollows12
import Derived.BigRegion
import Derived.Test.YtfccbjfiionepaaGreatDoorJTopFollows14
import Derived.Test.YtfccbjfiionepaaGreatDoorJTopFollows18
import Derived.Test.YtfccbjfiionepaaGreatDoorJTopFollows7
import Derived.Test.YtfccbjfiionepaaGreatDoorJTopFollows2
import Derived.Lib.SplitLaws
import Derived.Test.YtfccbjfiionepaaGreatDoorJTopFollows15
import Derived.Test.YtfccbjfiionepaaGreatDoorJTopFollows9
import Derived.Lib.AtoiErrMem
namespace Go.Proofs.YtfccbjfiionepaaGreatDoor
open Go.RowKit
set_option linter.unusedVariables false
attribute [local go_sem ↓] Go.wp_at_zero Go.wp_at_succ

theorem ent_ext {a b : Ent} (h1 : a.time = b.time) (h2 : a.data = b.data) : a = b := by
  obtain ⟨_, _⟩ := a
  obtain ⟨_, _⟩ := b
  simp only at h1 h2
  subst h1 h2
  rfl
set_option maxRecDepth 100000 in
set_option maxHeartbeats 1000000 in
theorem Entries_not (A A' : Option Addr) (n n' c c' : Nat) (es es' : List Ent) (w : World) (hr : Rd w 2 A n c (es.flatMap Ent.cells)) (hr' : Rd w 2 A' n' c' (es'.flatMap Ent.cells)) (hm : n ≤ 9223372036854775807) (hm' : n' ≤ 9223372036854775807) (hne : es ≠ es') :
    Calls Tryz.prog 28 #[.slice A n c, .slice A' n' c'] w fun e w' => e = .returned (.bool false) ∧ Ext w w' := by
  have HX := Lib.hid hr.lenE
  have HX' := Lib.hid hr'.lenE
  have hl := hr.2.1
  have hl' := hr'.2.1
  have HNE := Lib.hid hne
  clear hne
  by_cases hnn : n = n'
  · subst hnn
    have H0 : Hid (es.take 0 = es'.take 0) := rfl
    go_enter Tryz.func28, Tryz.ntmps28
    go_wp2_with fail
    go_loopw [5] (fun x wr => ∃ j : Nat, x = .int .i64 j ∧ j ≤ n ∧ Ext w wr ∧ Hid (es.take j = es'.take j)) (fun x _ => n - (intOf x).toNat)
    case atStart => exact ⟨0, rfl, Nat.zero_le _, by (repeat (with_reducible first | exact Ext.refl _ | assumption | refine Ext.drew ?_ | refine Ext.drewN ?_ _ | refine Ext.alloc ?_ _ | refine Ext.trans ?_ (by with_reducible assumption))), H0⟩
    case round =>
      obtain ⟨j, rfl, hj, hbw, htk⟩ := hrel
      by_cases hc : j < n
      · have hgj := List.getElem?_eq_getElem (l := es) (i := j) (by rw [HX.out]; exact hc)
        have hgj' := List.getElem?_eq_getElem (l := es') (i := j) (by rw [HX'.out]; exact hc)
        obtain ⟨ad, rfl, hb, c0, c1⟩ := (hr.ext hbw).getE hgj
        obtain ⟨ad', rfl, hb', c0', c1'⟩ := (hr'.ext hbw).getE hgj'
        have hstep : es[j]'(by rw [HX.out]; exact hc) = es'[j]'(by rw [HX'.out]; exact hc) → es.take (j + 1) = es'.take (j + 1) := fun h => by
          rw [List.take_succ_eq_append_getElem (by rw [HX.out]; exact hc), List.take_succ_eq_append_getElem (by rw [HX'.out]; exact hc), htk.out, h]
        generalize es[j]'(by rw [HX.out]; exact hc) = e at *
        generalize es'[j]'(by rw [HX'.out]; exact hc) = e' at *
        obtain ⟨et, ed⟩ := e
        obtain ⟨ft, fd⟩ := e'
        simp only at c0 c1 c0' c1'
        have HST := Lib.hid hstep
        have hcN : (j : Int) < (n : Int) := by omega
        clear hgj hgj' hstep
        by_cases h1 : et = ft
        · subst h1
          by_cases h2 : ed = fd
          · subst h2
            have HT := Lib.hid (HST.out rfl)
            go_wp2_with fail
            go_quiet (fail)
            go_wp2_with fail
            go_roundw
            case rel => exact ⟨j + 1, by go_num, by omega, by (repeat (with_reducible first | exact Ext.refl _ | assumption | refine Ext.drew ?_ | refine Ext.drewN ?_ _ | refine Ext.alloc ?_ _ | refine Ext.trans ?_ (by with_reducible assumption))), HT⟩
            case measure => simp [intOf]; omega
          · have b2 := (Lib.bytes_beq_false_iff ed fd).2 h2
            clear h2
            go_wp2_with fail
            go_quiet (fail)
            go_wp2_with fail
            go_ret
            exact ⟨rfl, by (repeat (with_reducible first | exact Ext.refl _ | assumption | refine Ext.drew ?_ | refine Ext.drewN ?_ _ | refine Ext.alloc ?_ _ | refine Ext.trans ?_ (by with_reducible assumption)))⟩
        · have b1 : (et == ft) = false := beq_eq_false_iff_ne.2 h1
          clear h1
          go_wp2_with fail
          go_quiet (fail)
          go_wp2_with fail
          go_ret
          exact ⟨rfl, by (repeat (with_reducible first | exact Ext.refl _ | assumption | refine Ext.drew ?_ | refine Ext.drewN ?_ _ | refine Ext.alloc ?_ _ | refine Ext.trans ?_ (by with_reducible assumption)))⟩
      · exfalso
        obtain rfl : j = n := by omega
        refine HNE.out ?_
        have h := htk.out
        rw [List.take_of_length_le (by rw [HX.out]; exact Nat.le_refl _), List.take_of_length_le (by rw [HX'.out]; exact Nat.le_refl _)] at h
        exact h
  · have hnb : ((n : Int) == (n' : Int)) = false := beq_eq_false_iff_ne.2 (fun h => hnn (by omega))
    clear hnn
    go_enter Tryz.func28, Tryz.ntmps28
    go_wp2_with fail
    go_ret
    exact ⟨rfl, by (repeat (with_reducible first | exact Ext.refl _ | assumption | refine Ext.drew ?_ | refine Ext.drewN ?_ _ | refine Ext.alloc ?_ _ | refine Ext.trans ?_ (by with_reducible assumption)))⟩
set_option maxRecDepth 100000 in
theorem Entries_yes (A A' : Option Addr) (n c c' : Nat) (es : List Ent) (w : World) (hr : Rd w 2 A n c (es.flatMap Ent.cells)) (hr' : Rd w 2 A' n c' (es.flatMap Ent.cells)) (hm : n ≤ 9223372036854775807) :
    Calls Tryz.prog 28 #[.slice A n c, .slice A' n c'] w fun e w' => e = .returned (.bool true) ∧ Ext w w' := by
  have HX := Lib.hid hr.lenE
  have hl := hr.2.1
  have hl' := hr'.2.1
  go_enter Tryz.func28, Tryz.ntmps28
  go_wp2_with fail
  go_loopw [5] (fun x wr => ∃ j : Nat, x = .int .i64 j ∧ j ≤ n ∧ Ext w wr) (fun x _ => n - (intOf x).toNat)
  case atStart => exact ⟨0, rfl, Nat.zero_le _, by (repeat (with_reducible first | exact Ext.refl _ | assumption | refine Ext.drew ?_ | refine Ext.drewN ?_ _ | refine Ext.alloc ?_ _ | refine Ext.trans ?_ (by with_reducible assumption)))⟩
  case round =>
    obtain ⟨j, rfl, hj, hbw⟩ := hrel
    by_cases hc : j < n
    · have hgj := List.getElem?_eq_getElem (l := es) (i := j) (by rw [HX.out]; exact hc)
      obtain ⟨ad, rfl, hb, c0, c1⟩ := (hr.ext hbw).getE hgj
      obtain ⟨ad', rfl, hb', c0', c1'⟩ := (hr'.ext hbw).getE hgj
      generalize es[j]'(by rw [HX.out]; exact hc) = e at *
      have hcN : (j : Int) < (n : Int) := by omega
      go_wp2_with fail
      go_quiet (fail)
      go_wp2_with fail
      go_roundw
      case rel => exact ⟨j + 1, by go_num, by omega, by (repeat (with_reducible first | exact Ext.refl _ | assumption | refine Ext.drew ?_ | refine Ext.drewN ?_ _ | refine Ext.alloc ?_ _ | refine Ext.trans ?_ (by with_reducible assumption)))⟩
      case measure => simp [intOf]; omega
    · go_wp2_with fail
      go_ret
      exact ⟨rfl, by (repeat (with_reducible first | exact Ext.refl _ | assumption | refine Ext.drew ?_ | refine Ext.drewN ?_ _ | refine Ext.alloc ?_ _ | refine Ext.trans ?_ (by with_reducible assumption)))⟩
/-- are two lists the same? -/
noncomputable def entsB (es es' : List Ent) : Bool := @decide (es = es') (Classical.propDecidable _)
theorem Entries_any (A A' : Option Addr) (n n' c c' : Nat) (es es' : List Ent) (w : World) (hr : Rd w 2 A n c (es.flatMap Ent.cells)) (hr' : Rd w 2 A' n' c' (es'.flatMap Ent.cells)) (hm : c ≤ maxLen) (hm' : c' ≤ maxLen) :
    Calls Tryz.prog 28 #[.slice A n c, .slice A' n' c'] w fun e w' => e = .returned (.bool (entsB es es')) ∧ Ext w w' := by
  have h1 := hr.2.1
  have h2 := hr'.2.1
  unfold maxLen at hm hm'
  by_cases h : es = es'
  · subst h
    have hn : n' = n := hr'.lenE.symm.trans hr.lenE
    subst hn
    have hb : entsB es es = true := @decide_eq_true _ (Classical.propDecidable _) rfl
    rw [hb]
    exact Entries_yes A A' _ c c' es w hr hr' (by omega)
  · have hb : entsB es es' = false := by
      cases hq : entsB es es' with
      | false => rfl
      | true => exact absurd (@of_decide_eq_true _ (Classical.propDecidable _) hq) h
    rw [hb]
    exact Entries_not A A' n n' c c' es es' w hr hr' (by omega) (by omega) h
end Go.Proofs.YtfccbjfiionepaaGreatDoor

/- Two lists of one root: where they clash. The references' Clash, the program's Collide. -/
namespace Go.Proofs.YtfccbjfiionepaaGreatDoor
open Go.RowKit Go.WideShapes
set_option linter.unusedVariables false
attribute [local go_sem ↓] Go.wp_at_zero Go.wp_at_succ

/-! ### plain -/
def str0 (s : ByteArray) : ByteArray := ⟨#[0]⟩ ++ s
def topB (k : Nat) (a : List ByteArray) : List UInt8 := nodeB (ofL ((sumsD a).take k)) (ofL ((sumsD a).drop k))
def topS (k : Nat) (a : List ByteArray) : ByteArray := ⟨(topB k a).toArray⟩
def clashL (a b : List ByteArray) : ByteArray × ByteArray :=
  if h : 2 ≤ a.length ∧ half a.length < a.length then
    if topB (half a.length) a ≠ topB (half a.length) b then (topS (half a.length) a, topS (half a.length) b)
    else if a.take (half a.length) ≠ b.take (half a.length) then clashL (a.take (half a.length)) (b.take (half a.length))
    else clashL (a.drop (half a.length)) (b.drop (half a.length))
  else (str0 (a.headD ⟨#[]⟩), str0 (b.headD ⟨#[]⟩))
termination_by a.length
decreasing_by
  · rw [List.length_take]; omega
  · rw [List.length_drop]; have := half_pos a.length; omega
theorem clashL_one (x y : ByteArray) : clashL [x] [y] = (str0 x, str0 y) := by rw [clashL, dif_neg (by simp)]; rfl
theorem clashL_top {a b : List ByteArray} (h2 : 2 ≤ a.length) (hn : a.length ≤ 4096) (h : topB (half a.length) a ≠ topB (half a.length) b) : clashL a b = (topS (half a.length) a, topS (half a.length) b) := by
  rw [clashL, dif_pos ⟨h2, half_lt h2 hn⟩, if_pos h]
theorem clashL_left {a b : List ByteArray} (h2 : 2 ≤ a.length) (hn : a.length ≤ 4096) (h : topB (half a.length) a = topB (half a.length) b) (h' : a.take (half a.length) ≠ b.take (half a.length)) : clashL a b = clashL (a.take (half a.length)) (b.take (half a.length)) := by
  rw [clashL, dif_pos ⟨h2, half_lt h2 hn⟩, if_neg (not_not_intro h), if_pos h']
theorem clashL_right {a b : List ByteArray} (h2 : 2 ≤ a.length) (hn : a.length ≤ 4096) (h : topB (half a.length) a = topB (half a.length) b) (h' : a.take (half a.length) = b.take (half a.length)) : clashL a b = clashL (a.drop (half a.length)) (b.drop (half a.length)) := by
  rw [clashL, dif_pos ⟨h2, half_lt h2 hn⟩, if_neg (not_not_intro h), if_neg (not_not_intro h')]
theorem topS_ne {k : Nat} {a b : List ByteArray} (h : topB k a ≠ topB k b) : (topS k a).toList ≠ (topS k b).toList := by
  intro e
  apply h
  have h1 := congrArg ByteArray.toList (rfl : topS k a = topS k a)
  have h2 : topS k a = topS k b := by
    have := (Lib.bytes_beq_false_iff (topS k a) (topS k b))
    rcases Classical.em (topS k a = topS k b) with he | he
    · exact he
    · have h3 := this.2 he
      rw [e] at h3
      simp at h3
  have h4 := congrArg (fun s : ByteArray => s.data.toList) h2
  simpa [topS] using h4

/-! ### the references' -/
end Go.Proofs.YtfccbjfiionepaaGreatDoor

namespace Go.Proofs.YtfccbjfiionepaaGreatDoor
open Go.RowKit Go.WideShapes
set_option linter.unusedVariables false
attribute [local go_sem ↓] Go.wp_at_zero Go.wp_at_succ

theorem RTop_any (k : Nat) (a : List ByteArray) (w : World) (hl : a.length ≤ 4096) :
    Calls Tryz.prog 135 #[.int .i64 (ofL ((sumsD a).take k)), .int .i64 (ofL ((sumsD a).drop k))] w fun e w' => e = .returned (.string (topS k a)) ∧ Ext w w' :=
  RNodeBytes_any _ _ w (vld_ofL (allV_take (allV_sumsD a) k) (by rw [List.length_take, sumsD_len]; omega)) (vld_ofL (allV_drop (allV_sumsD a) k) (by rw [List.length_drop, sumsD_len]; omega))
end Go.Proofs.YtfccbjfiionepaaGreatDoor

namespace Go.Proofs.YtfccbjfiionepaaGreatDoor
open Go.RowKit Go.WideShapes
set_option linter.unusedVariables false
attribute [local go_sem ↓] Go.wp_at_zero Go.wp_at_succ

def allS (l : List ByteArray) : Bool := l.all fun s => decide (s.size ≤ 200)
theorem allS_snoc {l : List ByteArray} {k : Nat} {z : ByteArray} (hz : l[k]? = some z) : allS (l.take (k + 1)) = (allS (l.take k) && decide (z.size ≤ 200)) := by
  obtain ⟨h, rfl⟩ := List.getElem?_eq_some_iff.1 hz
  unfold allS
  rw [List.take_succ_eq_append_getElem h, List.all_append]
  simp only [List.all_cons, List.all_nil, Bool.and_true]
theorem allS_no {l : List ByteArray} {k : Nat} {z : ByteArray} (hz : l[k]? = some z) (hv : ¬ z.size ≤ 200) : allS l = false := by
  cases h : allS l
  · rfl
  · exact absurd (of_decide_eq_true (List.all_eq_true.1 h z (List.mem_of_getElem? hz))) hv
theorem dataK_allS {l : List ByteArray} (h : l.length ≤ 200) : dataK l = if allS l = true then 0 else 4 := by
  cases hs : allS l
  · rw [if_neg (by decide)]
    refine dataK_bad fun hk => ?_
    have : allS l = true := List.all_eq_true.2 fun s hs => decide_eq_true (hk.2 s hs)
    rw [hs] at this; cases this
  · rw [if_pos rfl]
    exact dataK_ok ⟨h, fun s hm => of_decide_eq_true (List.all_eq_true.1 hs s hm)⟩
def idxS (l : List ByteArray) (e : Ending) : Prop := ∃ i : Int, e = .returned (.int .i64 i) ∧ (allS l = true → i = -1) ∧ (allS l = false → 0 ≤ i)
def sumsK (l : List ByteArray) : List Int := if dataK l = 0 then sumsD l else []
end Go.Proofs.YtfccbjfiionepaaGreatDoor

namespace Go.Proofs.YtfccbjfiionepaaGreatDoor
open Go.RowKit Go.WideShapes
set_option linter.unusedVariables false
attribute [local go_sem ↓] Go.wp_at_zero Go.wp_at_succ

def okL (xs : List Int) : Prop := allV xs = true ∧ xs.length ≤ 4096
theorem ofL_pos (xs : List Int) (h : okL xs) : 0 ≤ ofL xs := (vld_true (vld_ofL h.1 h.2)).1
theorem okL_take (a : List ByteArray) (k : Nat) (hl : a.length ≤ 4096) : okL ((sumsD a).take k) := ⟨allV_take (allV_sumsD a) k, by rw [List.length_take, sumsD_len]; omega⟩
theorem okL_drop (a : List ByteArray) (k : Nat) (hl : a.length ≤ 4096) : okL ((sumsD a).drop k) := ⟨allV_drop (allV_sumsD a) k, by rw [List.length_drop, sumsD_len]; omega⟩
theorem TTop_any (k : Nat) (a : List ByteArray) (w : World) (hl : a.length ≤ 4096) :
    Calls Tryz.prog 88 #[.int .i64 (ofL ((sumsD a).take k)), .int .i64 (ofL ((sumsD a).drop k))] w fun e w' => e = .returned (.string (topS k a)) ∧ Ext w w' :=
  BytesOf_any _ _ w (vld_true (vld_ofL (allV_take (allV_sumsD a) k) (by rw [List.length_take, sumsD_len]; omega))).1 (vld_true (vld_ofL (allV_drop (allV_sumsD a) k) (by rw [List.length_drop, sumsD_len]; omega))).1

def collK (a b : List ByteArray) : Int :=
  if dataK a ≠ 0 then 4 else if dataK b ≠ 0 then 4 else if a.length ≠ b.length then 3 else if a = b then 7 else if ofL (sumsD a) ≠ ofL (sumsD b) then 5 else 0
def collV (a b : List ByteArray) : ByteArray × ByteArray := if collK a b = 0 then clashL a b else (⟨#[]⟩, ⟨#[]⟩)
theorem coll_ways (a b : List ByteArray) : (¬ dataOk a ∧ collK a b = 4) ∨ (dataOk a ∧ ¬ dataOk b ∧ collK a b = 4) ∨ (dataOk a ∧ dataOk b ∧ a.length ≠ b.length ∧ collK a b = 3) ∨ (dataOk a ∧ dataOk b ∧ a.length = b.length ∧ a = b ∧ collK a b = 7) ∨ (dataOk a ∧ dataOk b ∧ a.length = b.length ∧ a ≠ b ∧ ofL (sumsD a) ≠ ofL (sumsD b) ∧ collK a b = 5) ∨ (dataOk a ∧ dataOk b ∧ a.length = b.length ∧ a ≠ b ∧ ofL (sumsD a) = ofL (sumsD b) ∧ collK a b = 0) := by
  unfold collK
  by_cases ha : dataOk a
  · rw [dataK_ok ha, if_neg (by decide)]
    by_cases hb : dataOk b
    · rw [dataK_ok hb, if_neg (by decide)]
      by_cases hl : a.length = b.length
      · rw [if_neg (not_not_intro hl)]
        by_cases he : a = b
        · rw [if_pos he]; exact .inr (.inr (.inr (.inl ⟨ha, hb, hl, he, rfl⟩)))
        · rw [if_neg he]
          by_cases ho : ofL (sumsD a) = ofL (sumsD b)
          · rw [if_neg (not_not_intro ho)]; exact .inr (.inr (.inr (.inr (.inr ⟨ha, hb, hl, he, ho, rfl⟩))))
          · rw [if_pos ho]; exact .inr (.inr (.inr (.inr (.inl ⟨ha, hb, hl, he, ho, rfl⟩))))
      · rw [if_pos hl]; exact .inr (.inr (.inl ⟨ha, hb, hl, rfl⟩))
    · rw [dataK_bad hb, if_pos (by decide)]; exact .inr (.inl ⟨ha, hb, rfl⟩)
  · rw [dataK_bad ha, if_pos (by decide)]; exact .inl ⟨ha, rfl⟩

end Go.Proofs.YtfccbjfiionepaaGreatDoor

/- Two faces of a log: plain; and wittop.one. -/
namespace Go.Proofs.YtfccbjfiionepaaGreatDoor
open Go.RowKit Go.WideShapes
set_option linter.unusedVariables false
attribute [local go_sem ↓] Go.wp_at_zero Go.wp_at_succ

theorem entB_inj {a b : Ent} (ha : a.ok) (hb : b.ok) (h : a.bytes = b.bytes) : a = b := by
  have h1 := takeE_bytes a ⟨#[]⟩ ha
  have h2 := takeE_bytes b ⟨#[]⟩ hb
  rw [h, h2] at h1
  injection h1 with h1
  injection h1 with h1
  exact h1.symm
theorem entsB_inj : ∀ {a b : List Ent}, (∀ e ∈ a, e.ok) → (∀ e ∈ b, e.ok) → a.map Ent.bytes = b.map Ent.bytes → a = b
  | [], [], _, _, _ => rfl
  | [], y :: b, _, _, h => by cases h
  | x :: a, [], _, _, h => by cases h
  | x :: a, y :: b, ha, hb, h => by
    rw [List.map_cons, List.map_cons] at h
    injection h with h1 h2
    rw [entB_inj (ha x (by simp)) (hb y (by simp)) h1, entsB_inj (fun e he => ha e (by simp [he])) (fun e he => hb e (by simp [he])) h2]
theorem sums_bytes (es : List Ent) : sumsD (es.map Ent.bytes) = es.map Ent.leaf := by
  unfold sumsD
  rw [List.map_map]
  refine List.map_congr_left fun e _ => ?_
  simp only [Function.comp_apply, Ent.leaf]
/-! ### two texts of one sum -/
theorem str0_inj {x y : ByteArray} (h : str0 x = str0 y) : x = y := by
  have h1 := congrArg (fun s : ByteArray => s.data.toList) h
  simp only [str0, toList_cat] at h1
  have h2 := List.append_cancel_left h1
  cases x; cases y
  simp at h2
  rw [h2]
theorem sum_str0 (x : ByteArray) : sumL (str0 x).data.toList = leafL x.data.toList := by unfold str0; rw [toList_cat]; rfl
theorem sum_topS (k : Nat) (a : List ByteArray) : sumL (topS k a).data.toList = nodeL (ofL ((sumsD a).take k)) (ofL ((sumsD a).drop k)) := rfl
theorem topS_size (k : Nat) (a : List ByteArray) : (topS k a).size = 9 := rfl
theorem str0_size (x : ByteArray) : (str0 x).size = 1 + x.size := by unfold str0; rw [size_cat]; rfl
theorem ofL_sums_node {a : List ByteArray} (h2 : 2 ≤ a.length) (hn : a.length ≤ 4096) : ofL (sumsD a) = nodeL (ofL ((sumsD a).take (half a.length))) (ofL ((sumsD a).drop (half a.length))) := by
  have := ofL_node (xs := sumsD a) (by rw [sumsD_len]; exact h2) (by rw [sumsD_len]; exact hn)
  rwa [sumsD_len] at this
theorem clash_law (N : Nat) : ∀ (a b : List ByteArray), a.length ≤ N → 1 ≤ a.length → a.length ≤ 4096 → a.length = b.length → (∀ s ∈ a, s.size ≤ 200) → (∀ s ∈ b, s.size ≤ 200) → a ≠ b → ofL (sumsD a) = ofL (sumsD b) →
    (clashL a b).1 ≠ (clashL a b).2 ∧ sumL (clashL a b).1.data.toList = sumL (clashL a b).2.data.toList ∧ (clashL a b).1.size ≤ 1000 ∧ (clashL a b).2.size ≤ 1000 := by
  induction N with
  | zero => intro a b h h1; omega
  | succ N ih =>
    intro a b h h1 hn hl ha hb hne ho
    by_cases h2 : 2 ≤ a.length
    · have hk := half_lt h2 hn
      have hk0 := half_pos a.length
      have hna := ofL_sums_node h2 hn
      have hnb := ofL_sums_node (a := b) (by omega) (by omega)
      rw [← hl] at hnb
      by_cases ht : topB (half a.length) a = topB (half a.length) b
      · obtain ⟨e1, e2⟩ := nodeB_inj (vld_ofL (allV_take (allV_sumsD a) _) (by rw [List.length_take, sumsD_len]; omega)) (vld_ofL (allV_drop (allV_sumsD a) _) (by rw [List.length_drop, sumsD_len]; omega)) (vld_ofL (allV_take (allV_sumsD b) _) (by rw [List.length_take, sumsD_len]; omega)) (vld_ofL (allV_drop (allV_sumsD b) _) (by rw [List.length_drop, sumsD_len]; omega)) ht
        rw [sumsD_take, sumsD_take] at e1
        rw [sumsD_drop, sumsD_drop] at e2
        by_cases he : a.take (half a.length) = b.take (half a.length)
        · rw [clashL_right h2 hn ht he]
          refine ih _ _ (by rw [List.length_drop]; omega) (by rw [List.length_drop]; omega) (by rw [List.length_drop]; omega) (by rw [List.length_drop, List.length_drop, hl]) (fun s hs => ha s (List.mem_of_mem_drop hs)) (fun s hs => hb s (List.mem_of_mem_drop hs)) ?_ e2
          intro hd
          apply hne
          rw [← List.take_append_drop (half a.length) a, ← List.take_append_drop (half a.length) b, List.take_append_drop, List.take_append_drop] at *
          rw [← List.take_append_drop (half a.length) a, he, hd, List.take_append_drop]
        · rw [clashL_left h2 hn ht he]
          exact ih _ _ (by rw [List.length_take]; omega) (by rw [List.length_take]; omega) (by rw [List.length_take]; omega) (by rw [List.length_take, List.length_take, hl]) (fun s hs => ha s (List.mem_of_mem_take hs)) (fun s hs => hb s (List.mem_of_mem_take hs)) he e1
      · rw [clashL_top h2 hn ht]
        refine ⟨fun e => topS_ne ht (congrArg ByteArray.toList e), ?_, by rw [topS_size]; omega, by rw [topS_size]; omega⟩
        rw [sum_topS, sum_topS, ← hna, ← hnb, ho]
    · have h0 : a.length = 1 := by omega
      obtain ⟨x, rfl⟩ := List.length_eq_one_iff.1 h0
      obtain ⟨y, rfl⟩ := List.length_eq_one_iff.1 (hl ▸ h0 : b.length = 1)
      rw [clashL_one]
      have hx := ha x (by simp)
      have hy := hb y (by simp)
      refine ⟨fun e => hne (by rw [str0_inj e]), ?_, by rw [str0_size]; omega, by rw [str0_size]; omega⟩
      rw [sum_str0, sum_str0]
      have h3 : ofL [leafL x.data.toList] = ofL [leafL y.data.toList] := ho
      rwa [ofL_one, ofL_one] at h3
/-- two lists of one root clash -/
theorem two_clash {l o : List Ent} (hl : entsOk l) (ho : entsOk o) (hn : l.length = o.length) (h1 : 1 ≤ l.length) (hne : l ≠ o) (hsl : ∀ s ∈ l.map Ent.bytes, s.size ≤ 200) (hso : ∀ s ∈ o.map Ent.bytes, s.size ≤ 200) (hr : ofL (l.map Ent.leaf) = ofL (o.map Ent.leaf)) :
    collK (l.map Ent.bytes) (o.map Ent.bytes) = 0 ∧ (collV (l.map Ent.bytes) (o.map Ent.bytes)).1 ≠ (collV (l.map Ent.bytes) (o.map Ent.bytes)).2 ∧ sumL (collV (l.map Ent.bytes) (o.map Ent.bytes)).1.data.toList = sumL (collV (l.map Ent.bytes) (o.map Ent.bytes)).2.data.toList ∧ (collV (l.map Ent.bytes) (o.map Ent.bytes)).1.size ≤ 1000 ∧ (collV (l.map Ent.bytes) (o.map Ent.bytes)).2.size ≤ 1000 := by
  have hb : l.map Ent.bytes ≠ o.map Ent.bytes := fun e => hne (entsB_inj hl.2 ho.2 e)
  have hll : (l.map Ent.bytes).length = (o.map Ent.bytes).length := by rw [List.length_map, List.length_map, hn]
  have hd1 : dataOk (l.map Ent.bytes) := ⟨by rw [List.length_map]; exact hl.1, hsl⟩
  have hd2 : dataOk (o.map Ent.bytes) := ⟨by rw [List.length_map]; exact ho.1, hso⟩
  have hs : ofL (sumsD (l.map Ent.bytes)) = ofL (sumsD (o.map Ent.bytes)) := by rw [sums_bytes, sums_bytes, hr]
  have hk : collK (l.map Ent.bytes) (o.map Ent.bytes) = 0 := by
    unfold collK
    rw [dataK_ok hd1, dataK_ok hd2, if_neg (by decide), if_neg (by decide), if_neg (not_not_intro hll), if_neg hb, if_neg (not_not_intro hs)]
  have hv : collV (l.map Ent.bytes) (o.map Ent.bytes) = clashL (l.map Ent.bytes) (o.map Ent.bytes) := if_pos hk
  rw [hv]
  exact ⟨hk, clash_law (l.map Ent.bytes).length _ _ (Nat.le_refl _) (by rw [List.length_map]; exact h1) (by have := hd1.1; omega) hll hsl hso hb hs⟩

/-! ### the closed fact -/
theorem half2 : half 2 = 1 := by decide
theorem one_way : wayL [5, 6] 1 = [5] := by
  rw [wayL, dif_pos (by rw [show ([5, 6] : List Int).length = 2 from rfl, half2]; decide)]
  show (if 1 < half 2 then _ else wayL (List.drop (half 2) [5, 6]) (1 - half 2) ++ [ofL (List.take (half 2) [5, 6])]) = _
  rw [half2, if_neg (by decide)]
  show wayL [6] 0 ++ [ofL [5]] = [5]
  rw [ofL_one, wayL, dif_neg (by decide)]
  rfl
theorem one_leafs : leafsOk [5, 6] := ⟨by decide, by decide⟩
theorem one_pm : pmK [5, 6] 1 2 = 0 ∧ pmV [5, 6] 1 2 = [5] := by
  have h := pmK_ok (i := 1) (m := 2) one_leafs ⟨by decide, by decide, by decide⟩
  exact ⟨h, by unfold pmV; rw [if_pos h]; exact one_way⟩
theorem one_steps : stepsN 1 2 = 1 := by
  rw [stepsN, dif_pos (by rw [half2]; decide), half2, if_neg (by decide)]
  show stepsN 0 1 + 1 = 1
  rw [stepsN, dif_neg (by decide)]
theorem one_check : pcheck (nodeL 5 6) 2 1 6 [5] = 0 := by
  refine pcheck_ok ⟨by decide, by decide, by decide⟩ ⟨vld_node 5 6, by decide, by decide⟩ (by show 1 = stepsN 1 2; rw [one_steps]) ?_
  show upL 1 2 6 [5] = nodeL 5 6
  rw [upL, dif_pos (by rw [half2]; decide), half2, if_neg (by decide)]
  show nodeL ([5].getLastD 0) (upL 0 1 6 ([5] : List Int).dropLast) = nodeL 5 6
  rw [upL, dif_neg (by decide)]
  rfl
theorem two_rd (w : World) : Rd (w.alloc (.cells #[.int .i64 5, .int .i64 6] 3)) 1 (some ⟨w.heap.size, 0, none⟩) 2 2 (([5, 6] : List Int).map (Value.int .i64)) :=
  ⟨rfl, Nat.le_refl _, fun _ => ⟨_, rfl, by simp, news_new w 3 _ _ rfl⟩⟩
set_option maxRecDepth 100000 in
set_option maxHeartbeats 1000000 in
theorem one_any (w : World) : Calls Tryz.prog 6 #[] w fun e w' => e = .returned (.bool true) ∧ Ext w w' := by
  have HPM : Hid (∀ W, Calls Tryz.prog 18 #[.slice (some ⟨W.heap.size, 0, none⟩) 2 2, .int .i64 1, .int .i64 2] (W.alloc (.cells #[.int .i64 5, .int .i64 6] 3)) fun e w' => (∃ A c, e = .returned (.tuple #[.slice (some A) 1 c, .nilIface]) ∧ c ≤ maxLen ∧ Rd w' 1 (some A) 1 c ([5].map (Value.int .i64)) ∧ w'.cell? (A.add 0) = some (.int .i64 5)) ∧ Ext W w') := Lib.hid fun W => by
    have h := PMake_any (some ⟨W.heap.size, 0, none⟩) 2 2 [5, 6] 1 2 (W.alloc (.cells #[.int .i64 5, .int .i64 6] 3)) (two_rd W) (by simp [maxLen])
    rw [one_pm.1, one_pm.2] at h
    refine h.mono fun e w' hh => ?_
    obtain ⟨⟨v, h1, h2⟩, h3⟩ := hh
    obtain ⟨A, c, hv, hc, hr⟩ := h2.rd
    obtain ⟨ad, hA, _, hcell⟩ := hr.getI (j := 0) (z := 5) rfl
    subst hA
    subst hv
    exact ⟨⟨ad, c, h1, hc, hr, hcell⟩, ((Ext.refl W).alloc _).trans h3⟩
  have HPC : Hid (∀ W A c, Rd W 1 (some A) 1 c ([5].map (Value.int .i64)) → c ≤ maxLen → Calls Tryz.prog 34 #[.int .i64 (nodeL 5 6), .int .i64 2, .int .i64 1, .int .i64 6, .slice (some A) 1 c] W fun e w' => e = .returned .nilIface ∧ Ext W w') := Lib.hid fun W A c hr hc => by
    have h := PCheck_any (nodeL 5 6) 2 1 6 (some A) 1 c [5] W hr hc
    rw [one_check] at h
    exact h
  have HN := Lib.hid fun W => Node_ok 5 6 W (by decide) (by decide)
  obtain ⟨nd, hnd⟩ : ∃ x, nodeL 5 6 = x := ⟨_, rfl⟩
  rw [hnd] at HPC HN
  clear hnd
  go_enter Tryz.func6, Tryz.ntmps6
  go_wp2_with fail
  refine (HN.out _).mono ?_
  rintro _ w1 ⟨rfl, hb1⟩
  go_wp2_with fail
  refine (HPM.out w1).mono ?_
  rintro _ w2 ⟨⟨A, c, rfl, hc, hr, hcell⟩, hb2⟩
  have HR := Lib.hid hr
  have hcl : w2.cell? A = some (.int .i64 5) := by rw [add_zero'] at hcell; exact hcell
  have h1c : 1 ≤ c := hr.2.1
  clear hr
  go_wp2_with fail
  refine (HPC.out _ A c HR.out hc).mono ?_
  rintro _ w3 ⟨rfl, hb3⟩
  go_wp2_with fail
  go_ret
  exact ⟨rfl, (hb1.trans hb2).trans hb3⟩
end Go.Proofs.YtfccbjfiionepaaGreatDoor

/- Texts cut at one byte: plain. -/
namespace Go.Proofs.YtfccbjfiionepaaGreatDoor
set_option linter.unusedVariables false

/-- a text cut at each c -/
def partsL (c : UInt8) : List UInt8 → List (List UInt8)
  | [] => [[]]
  | b :: l => if b = c then [] :: partsL c l else match partsL c l with
    | [] => [[b]]
    | p :: r => (b :: p) :: r
theorem partsL_ne (c : UInt8) : ∀ l, partsL c l ≠ []
  | [] => by simp [partsL]
  | b :: l => by
    unfold partsL
    split
    · simp
    · split <;> simp
theorem partsL_hit (c : UInt8) (l : List UInt8) : partsL c (c :: l) = [] :: partsL c l := by rw [partsL, if_pos rfl]
theorem partsL_miss {c b : UInt8} (h : b ≠ c) {l p : List UInt8} {r : List (List UInt8)} (hp : partsL c l = p :: r) : partsL c (b :: l) = (b :: p) :: r := by rw [partsL, if_neg h, hp]
theorem partsL_app (c : UInt8) : ∀ (a l : List UInt8), (∀ b ∈ a, b ≠ c) → partsL c (a ++ c :: l) = a :: partsL c l
  | [], l, _ => partsL_hit c l
  | b :: a, l, h => partsL_miss (h b (by simp)) (partsL_app c a l fun x hx => h x (by simp [hx]))
theorem partsL_one (c : UInt8) : ∀ (a : List UInt8), (∀ b ∈ a, b ≠ c) → partsL c a = [a]
  | [], _ => rfl
  | b :: a, h => partsL_miss (h b (by simp)) (partsL_one c a fun x hx => h x (by simp [hx]))
def joinL (c : UInt8) : List (List UInt8) → List UInt8
  | [] => []
  | [p] => p
  | p :: q :: r => p ++ c :: joinL c (q :: r)
theorem joinL_parts (c : UInt8) : ∀ l, joinL c (partsL c l) = l
  | [] => rfl
  | b :: l => by
    have ih := joinL_parts c l
    obtain ⟨p, r, hp⟩ : ∃ p r, partsL c l = p :: r := by
      cases h : partsL c l with
      | nil => exact absurd h (partsL_ne c l)
      | cons p r => exact ⟨p, r, rfl⟩
    by_cases hb : b = c
    · subst hb
      rw [partsL_hit, hp]
      rw [hp] at ih
      show [] ++ b :: joinL b (p :: r) = _
      rw [ih]; rfl
    · rw [partsL_miss hb hp]
      rw [hp] at ih
      cases r with
      | nil => show b :: p = _; rw [show p = l from ih]
      | cons q r =>
        show (b :: p) ++ c :: joinL c (q :: r) = _
        rw [List.cons_append]
        congr 1
theorem parts_none (c : UInt8) : ∀ (l : List UInt8), ∀ p ∈ partsL c l, ∀ b ∈ p, b ≠ c
  | [], p, hp, b, hb => by simp [partsL] at hp; subst hp; simp at hb
  | x :: l, p, hp, b, hb => by
    by_cases hx : x = c
    · subst hx
      rw [partsL_hit] at hp
      rcases List.mem_cons.1 hp with rfl | hp
      · simp at hb
      · exact parts_none x l p hp b hb
    · obtain ⟨q, r, hq⟩ : ∃ q r, partsL c l = q :: r := by
        cases h : partsL c l with
        | nil => exact absurd h (partsL_ne c l)
        | cons q r => exact ⟨q, r, rfl⟩
      rw [partsL_miss hx hq] at hp
      rcases List.mem_cons.1 hp with rfl | hp
      · rcases List.mem_cons.1 hb with rfl | hb
        · exact hx
        · exact parts_none c l q (by rw [hq]; simp) b hb
      · exact parts_none c l p (by rw [hq]; simp [hp]) b hb

/-! ### what the library's split gives -/
theorem index_hit (c : UInt8) (l : List UInt8) : Lib.index (c :: l) [c] = 0 := by
  unfold Lib.index
  rw [if_pos (by simp [List.isPrefixOf])]
theorem index_miss {c b : UInt8} (h : b ≠ c) (l : List UInt8) : Lib.index (b :: l) [c] = if Lib.index l [c] == -1 then -1 else Lib.index l [c] + 1 := by
  rw [Lib.index, if_neg]
  simp [List.isPrefixOf]
  exact fun e => h e.symm
theorem split_parts (c : UInt8) : ∀ l, Lib.splitK [c] 0 (Lib.count l [c]) l = partsL c l
  | [] => by
    have h : Lib.index [] [c] = -1 := rfl
    rw [Lib.count_miss h]; rfl
  | b :: l => by
    have ih := split_parts c l
    by_cases hb : b = c
    · subst hb
      rw [Lib.count_hit (i := 0) (by simp) (index_hit b l), partsL_hit]
      show Lib.splitK [b] 0 (1 + Lib.count ((b :: l).drop 1) [b]) (b :: l) = _
      rw [Nat.add_comm, List.drop_one, List.tail_cons, Lib.splitK, index_hit]
      rw [if_neg (by decide)]
      show [] :: Lib.splitK [b] 0 _ l = _
      rw [ih]
    · have hi := index_miss hb l
      by_cases hm : Lib.index l [c] = -1
      · rw [if_pos (by rw [hm]; rfl)] at hi
        rw [Lib.count_miss hm] at ih
        rw [Lib.count_miss hi, partsL_miss hb ih.symm]
        rfl
      · have hg := Lib.index_ge l [c]
        obtain ⟨i, hii⟩ := Int.eq_ofNat_of_zero_le (show 0 ≤ Lib.index l [c] by omega)
        rw [if_neg (by simpa using hm), hii] at hi
        have e1 := Lib.count_hit (i := i) (s := l) (sub := [c]) (by simp) hii
        have e2 := Lib.count_hit (i := i + 1) (s := b :: l) (sub := [c]) (by simp) hi
        rw [e1, Nat.add_comm, Lib.splitK, hii, if_neg (by simp)] at ih
        have h1 : ((i : Int)).toNat = i := by omega
        rw [h1] at ih
        rw [partsL_miss hb ih.symm, e2, Nat.add_comm, Lib.splitK, hi, if_neg (by simp; omega)]
        have h2 : ((i : Int) + 1).toNat = i + 1 := by omega
        rw [h2]
        have h3 : (b :: l).drop (i + 1 + [c].length) = l.drop (i + [c].length) := by
          show (b :: l).drop (i + 1 + 1) = l.drop (i + 1)
          rfl
        rw [h3]
        rfl
/-- a text cut at each c -/
def partsB (c : UInt8) (s : ByteArray) : List ByteArray := (partsL c s.data.toList).map fun l => ⟨l.toArray⟩
theorem splitB_parts (c : UInt8) (s : ByteArray) : Lib.splitB ⟨#[c]⟩ 0 (Lib.countB s ⟨#[c]⟩) s = partsB c s := by
  have h := Lib.splitB_data ⟨#[c]⟩ 0 (Lib.countB s ⟨#[c]⟩) s
  have h2 : Lib.splitK (⟨#[c]⟩ : ByteArray).data.toList 0 (Lib.countB s ⟨#[c]⟩) s.data.toList = partsL c s.data.toList := split_parts c s.data.toList
  rw [h2] at h
  unfold partsB
  rw [← h, List.map_map]
  conv => lhs; rw [← List.map_id (Lib.splitB ⟨#[c]⟩ 0 (Lib.countB s ⟨#[c]⟩) s)]
  apply List.map_congr_left
  intro x _
  show x = ⟨x.data.toList.toArray⟩
  cases x
  simp
theorem partsB_ne (c : UInt8) (s : ByteArray) : partsB c s ≠ [] := by
  unfold partsB
  simp [partsL_ne]
theorem partsB_len (c : UInt8) (s : ByteArray) : Lib.countB s ⟨#[c]⟩ + 1 = (partsB c s).length := by
  rw [← splitB_parts, Lib.splitB_all ⟨#[c]⟩ (by show 1 ≤ 1; omega) 0 _ s rfl]
/-- no c in a text -/
def freeB (c : UInt8) (s : ByteArray) : Prop := ∀ b ∈ s.data.toList, b ≠ c
theorem parts_four {a b c d : ByteArray} (ha : freeB 32 a) (hb : freeB 32 b) (hc : freeB 32 c) (hd : freeB 32 d) : partsB 32 (four4 a b c d) = [a, b, c, d] := by
  have e : (four4 a b c d).data.toList = a.data.toList ++ 32 :: (b.data.toList ++ 32 :: (c.data.toList ++ 32 :: d.data.toList)) := by
    simp [four4, sp]
  unfold partsB
  rw [e, partsL_app 32 _ _ ha, partsL_app 32 _ _ hb, partsL_app 32 _ _ hc, partsL_one 32 _ hd]
  simp
theorem four_parts {s a b c d : ByteArray} (h : partsB 32 s = [a, b, c, d]) : four4 a b c d = s := by
  apply ba_ext
  have h1 := joinL_parts 32 s.data.toList
  unfold partsB at h
  have h2 : partsL 32 s.data.toList = [a.data.toList, b.data.toList, c.data.toList, d.data.toList] := by
    have := congrArg (List.map (fun x : ByteArray => x.data.toList)) h
    rw [List.map_map] at this
    have e : ((fun x : ByteArray => x.data.toList) ∘ fun l : List UInt8 => (⟨l.toArray⟩ : ByteArray)) = id := by
      funext l; simp
    rw [e, List.map_id] at this
    simpa using this
  rw [h2] at h1
  rw [← h1]
  simp [joinL, four4, sp]
theorem parts_size {c : UInt8} {s x : ByteArray} (h : x ∈ partsB c s) : x.size ≤ s.size := by
  have key : ∀ (l p : List UInt8), p ∈ partsL c l → p.length ≤ l.length := by
    intro l
    induction l with
    | nil => intro p hp; simp [partsL] at hp; subst hp; simp
    | cons b l ih =>
      intro p hp
      by_cases hb : b = c
      · subst hb
        rw [partsL_hit] at hp
        rcases List.mem_cons.1 hp with rfl | hp
        · simp
        · have := ih p hp; simp; omega
      · obtain ⟨q, r, hq⟩ : ∃ q r, partsL c l = q :: r := by
          cases h : partsL c l with
          | nil => exact absurd h (partsL_ne c l)
          | cons q r => exact ⟨q, r, rfl⟩
        rw [partsL_miss hb hq] at hp
        rcases List.mem_cons.1 hp with rfl | hp
        · have := ih q (by rw [hq]; simp); simp; omega
        · have := ih p (by rw [hq]; simp [hp]); simp; omega
  unfold partsB at h
  obtain ⟨l, hl, rfl⟩ := List.mem_map.1 h
  have := key _ _ hl
  show l.toArray.size ≤ s.data.toList.length
  simpa using this

/-! ### heads -/
theorem free_dig (n : Nat) : freeB 32 (digB n) := by
  intro b hb
  rw [digB_dec n n (Nat.le_refl _)] at hb
  have key : ∀ (N n : Nat), n ≤ N → ∀ b ∈ Lib.decDigits n, b ≠ 32 := by
    intro N
    induction N with
    | zero => intro n h b hb
              obtain rfl : n = 0 := by omega
              rw [Lib.decDigits, dif_pos (by omega)] at hb
              obtain rfl : b = UInt8.ofNat (48 + 0) := by simpa using hb
              decide
    | succ N ih =>
      intro n h b hb
      have h10 : ∀ d, d < 10 → UInt8.ofNat (48 + d) ≠ 32 := by decide
      by_cases h1 : n < 10
      · rw [Lib.decDigits, dif_pos h1] at hb
        obtain rfl : b = UInt8.ofNat (48 + n) := by simpa using hb
        exact h10 n h1
      · rw [Lib.decDigits, dif_neg h1] at hb
        rcases List.mem_append.1 hb with hb | hb
        · exact ih (n / 10) (by omega) b hb
        · obtain rfl : b = UInt8.ofNat (48 + n % 10) := by simpa using hb
          exact h10 _ (Nat.mod_lt _ (by decide))
  exact key n n (Nat.le_refl _) b hb
theorem free_hex (n : Nat) : freeB 32 (hexT n) := by
  have key : ∀ (k n : Nat), freeB 32 (lowHex n k) := by
    intro k
    induction k with
    | zero => intro n b hb; exact absurd hb (by simp [lowHex])
    | succ k ih =>
      intro n
      rw [lowHex_snoc]
      intro b hb
      rw [ByteArray.data_append, Array.toList_append] at hb
      rcases List.mem_append.1 hb with hb | hb
      · exact ih _ b hb
      · have h16 : ∀ d, d < 16 → ∀ b ∈ (hx d).data.toList, b ≠ 32 := by decide +kernel
        exact h16 _ (Nat.mod_lt _ (by decide)) b hb
  exact key 8 n
def hd0 : Hd := ⟨0, 0, 0, 0⟩
/-- a head of four texts -/
def headQ (a b c d : ByteArray) : Hd × Int := match numR a 9, numR c 9 with
  | some n, some t =>
    if readK b = 2 ∨ readK d = 2 then (hd0, 2)
    else if readK b ≠ 0 ∨ readK d ≠ 0 ∨ Hd.ok ⟨(n : Int), readV b, (t : Int), readV d⟩ = false then (hd0, 1)
    else (⟨(n : Int), readV b, (t : Int), readV d⟩, 0)
  | _, _ => (hd0, 2)
/-- a head of a text -/
def headR (s : ByteArray) : Hd × Int := match partsB 32 s with
  | [a, b, c, d] => headQ a b c d
  | _ => (hd0, 2)
theorem headR_four {s a b c d : ByteArray} (h : partsB 32 s = [a, b, c, d]) : headR s = headQ a b c d := by unfold headR; rw [h]
theorem headR_not {s : ByteArray} (h : (partsB 32 s).length ≠ 4) : headR s = (hd0, 2) := by
  unfold headR
  split
  · rename_i a b c d e
    rw [e] at h
    exact absurd rfl h
  · rfl
theorem headR_none1 {a b c d : ByteArray} (h : numR a 9 = none ∨ numR c 9 = none) : headQ a b c d = (hd0, 2) := by
  unfold headQ
  split
  · rename_i e1 e2
    rcases h with h | h
    · rw [h] at e1; cases e1
    · rw [h] at e2; cases e2
  · rfl
theorem headQ_some {a b c d : ByteArray} {n t : Nat} (h1 : numR a 9 = some n) (h2 : numR c 9 = some t) : headQ a b c d = if readK b = 2 ∨ readK d = 2 then (hd0, 2) else if readK b ≠ 0 ∨ readK d ≠ 0 ∨ Hd.ok ⟨(n : Int), readV b, (t : Int), readV d⟩ = false then (hd0, 1) else (⟨(n : Int), readV b, (t : Int), readV d⟩, 0) := by
  unfold headQ
  rw [h1, h2]
theorem readV_hexT {n : Int} (h : vld n = true) : readV (hexT n.toNat) = n ∧ readK (hexT n.toNat) = 0 := by
  obtain ⟨h1, h2⟩ := vld_true h
  obtain ⟨m, rfl⟩ := Int.eq_ofNat_of_zero_le h1
  rw [Int.toNat_natCast]
  have hr := readH_hexT (n := m) (by omega)
  unfold readV readK
  rw [hr]
  simp only
  rw [if_pos (by omega), if_pos (by omega)]
  exact ⟨rfl, rfl⟩
/-- what was written is read -/
theorem headR_back {h : Hd} (k : h.ok = true) : headR (headB h) = (h, 0) := by
  obtain ⟨k1, k2, k3, k4, k5, k6⟩ := Hd.ok_parts k
  obtain ⟨a, b, c, d⟩ := h
  simp only at k1 k2 k3 k4 k5 k6
  obtain ⟨r1, r2⟩ := readV_hexT k5
  obtain ⟨r3, r4⟩ := readV_hexT k6
  obtain ⟨a, rfl⟩ := Int.eq_ofNat_of_zero_le k1
  obtain ⟨c, rfl⟩ := Int.eq_ofNat_of_zero_le k3
  unfold headB
  simp only [Int.toNat_natCast]
  rw [headR_four (parts_four (free_dig a) (free_hex _) (free_dig c) (free_hex _))]
  rw [headQ_some (numR_of (Nat.le_trans (digB_small 6 a (by show a < 10000000; omega)) (by omega)) rfl) (numR_of (Nat.le_trans (digB_small 6 c (by show c < 10000000; omega)) (by omega)) rfl), r2, r4, r1, r3, if_neg (by omega), if_neg]
  rintro (h | h | h)
  · exact h rfl
  · exact h rfl
  · rw [k] at h; cases h
/-- what was read is written so -/
theorem readK_text {s : ByteArray} (h : readK s = 0) : hexT (readV s).toNat = s := by
  unfold readK at h
  split at h
  · rename_i n hn
    split at h
    · rename_i hlt
      unfold readV
      rw [hn]
      simp only
      rw [if_pos hlt, Int.toNat_natCast]
      exact (readH_text hn).2.2.2
    · cases h
  · cases h
theorem headR_print {s : ByteArray} (k : (headR s).2 = 0) : headB (headR s).1 = s ∧ (headR s).1.ok = true := by
  by_cases h4 : (partsB 32 s).length = 4
  · obtain ⟨a, b, c, d, hp⟩ : ∃ a b c d, partsB 32 s = [a, b, c, d] := by
      match h : partsB 32 s, h4 with
      | [a, b, c, d], _ => exact ⟨a, b, c, d, rfl⟩
    rw [headR_four hp] at k ⊢
    cases h1 : numR a 9 with
    | none => rw [headR_none1 (.inl h1)] at k; cases k
    | some n =>
      cases h2 : numR c 9 with
      | none => rw [headR_none1 (.inr h2)] at k; cases k
      | some t =>
        rw [headQ_some h1 h2] at k ⊢
        split at k
        · cases k
        · rename_i q1
          split at k
          · cases k
          · rename_i q2
            rw [if_neg q1, if_neg q2]
            simp only [not_or, Decidable.not_not] at q2
            obtain ⟨q3, q4, q5⟩ := q2
            refine ⟨?_, by simpa using q5⟩
            unfold headB
            simp only [Int.toNat_natCast]
            rw [(numR_some h1).2.2.2, (numR_some h2).2.2.2, readK_text q3, readK_text q4, four_parts hp]
  · rw [headR_not h4] at k; cases k
end Go.Proofs.YtfccbjfiionepaaGreatDoor

/- head.Print, Number, Parse. -/
namespace Go.Proofs.YtfccbjfiionepaaGreatDoor
open Go.RowKit Go.WideShapes
set_option linter.unusedVariables false
attribute [local go_sem ↓] Go.wp_at_zero Go.wp_at_succ

def hprT (h : Hd) : ByteArray := if h.ok then headB h else ⟨#[]⟩
set_option maxRecDepth 100000 in
set_option maxHeartbeats 2000000 in
theorem HPrint_any (h : Hd) (w : World) (hD : DebG w) (hP : PowG w) :
    Calls Tryz.prog 57 #[h.val] w fun e w' => e = .returned (.tuple #[.string (hprT h), errR (hdK h)]) ∧ Ext w w' := by
  obtain ⟨hE, hN, hG0⟩ := errR_rules
  have HC := Lib.hid fun W => HCheck_any h W
  cases hok : h.ok with
  | false =>
    have h1 : hdK h = 1 := if_neg (by rw [hok]; decide)
    have h2 : hprT h = ⟨#[]⟩ := if_neg (by rw [hok]; decide)
    rw [h1] at HC ⊢
    rw [h2]
    clear hok h1 h2 hD hP
    obtain ⟨a, b, c, d⟩ := h
    simp only [Hd.val] at *
    have B0 := Bk.at_ w 40 #[.int .i64 a, .int .i64 b, .int .i64 c, .int .i64 d] w.heap.size rfl
    have e0 : Ext w (w.alloc (.cells #[.int .i64 a, .int .i64 b, .int .i64 c, .int .i64 d] 40)) := by (repeat (with_reducible first | exact Ext.refl _ | assumption | refine Ext.drew ?_ | refine Ext.drewN ?_ _ | refine Ext.alloc ?_ _ | refine Ext.trans ?_ (by with_reducible assumption)))
    go_enter Tryz.func57, Tryz.ntmps57
    go_upto_region 1 with (fail)
    obtain ⟨g0, hg0⟩ : ∃ g, w.heap.size = g := ⟨_, rfl⟩
    rw [hg0] at B0
    try rw [hg0]
    generalize w.alloc (.cells #[.int .i64 a, .int .i64 b, .int .i64 c, .int .i64 d] 40) = W0 at *
    have y0 := B0.cell 0
    have y1 := B0.cell 1
    have y2 := B0.cell 2
    have y3 := B0.cell 3
    have HE0 := Lib.hid e0
    clear e0 hg0
    go_wp2_with fail
    refine (HC.out _).mono ?_
    rintro _ w1 ⟨rfl, hb1⟩
    go_wp2_with fail
    go_ret2
    exact ⟨rfl, HE0.out.trans hb1⟩
  | true =>
    have h1 : hdK h = 0 := if_pos hok
    have h2 : hprT h = headB h := if_pos hok
    obtain ⟨k1, k2, k3, k4, k5, k6⟩ := Hd.ok_parts hok
    rw [h1] at HC ⊢
    rw [h2]
    have HHB : Hid (headB h = four4 (digB h.size.toNat) (hexT h.root.toNat) (digB h.time.toNat) (hexT h.sign.toNat)) := rfl
    have s1 : (digB h.size.toNat).size ≤ 7 := digB_small 6 _ (by show _ < 10000000; omega)
    have s3 : (digB h.time.toNat).size ≤ 7 := digB_small 6 _ (by show _ < 10000000; omega)
    have s2 := hexT_size h.root.toNat
    have s4 := hexT_size h.sign.toNat
    clear hok h1 h2
    obtain ⟨a, b, c, d⟩ := h
    simp only at k1 k2 k3 k4 k5 k6 s1 s2 s3 s4
    obtain ⟨a, rfl⟩ := Int.eq_ofNat_of_zero_le k1
    obtain ⟨c, rfl⟩ := Int.eq_ofNat_of_zero_le k3
    simp only [Int.toNat_natCast] at s1 s3 HHB
    have HI1 := Lib.hid fun W (e : Ext w W) => Itoa_any a W (by omega) (hP.ext e)
    have HI2 := Lib.hid fun W (e : Ext w W) => Itoa_any c W (by omega) (hP.ext e)
    obtain ⟨tx, htx⟩ : ∃ f : Int → ByteArray, ∀ z : Int, hexT z.toNat = f z := ⟨_, fun _ => rfl⟩
    have HT : Hid (∀ z, z = b ∨ z = d → ∀ W, Ext w W → Calls Tryz.prog 61 #[.int .i64 z] W fun e w' => e = .returned (.string (tx z)) ∧ Ext W w') := Lib.hid fun z hz W e => by
      rw [← htx z]
      rcases hz with rfl | rfl
      · exact MText_sum k5 W (hD.ext e)
      · exact MText_sum k6 W (hD.ext e)
    rw [htx b, htx d] at HHB
    rw [htx b] at s2
    rw [htx d] at s4
    obtain ⟨t1, ht1⟩ : ∃ t, digB a = t := ⟨_, rfl⟩
    obtain ⟨t3, ht3⟩ : ∃ t, digB c = t := ⟨_, rfl⟩
    rw [ht1] at HI1 HHB s1
    rw [ht3] at HI2 HHB s3
    have HJ := Lib.hid fun (g : Nat) (W : World) h0 h1 h2 h3 hg => Join4 g 4 t1 (tx b) t3 (tx d) W h0 h1 h2 h3 hg (by omega) (by omega)
    rw [← HHB.out] at HJ
    obtain ⟨hb, hhb⟩ : ∃ t, headB ⟨(a : Int), b, (c : Int), d⟩ = t := ⟨_, rfl⟩
    rw [hhb] at HJ ⊢
    clear hhb HHB ht1 ht3 htx s1 s2 s3 s4 k1 k2 k3 k4 k5 k6 hD hP
    simp only [Hd.val] at *
    have B0 := Bk.at_ w 40 #[.int .i64 a, .int .i64 b, .int .i64 c, .int .i64 d] w.heap.size rfl
    have e0 : Ext w (w.alloc (.cells #[.int .i64 a, .int .i64 b, .int .i64 c, .int .i64 d] 40)) := by (repeat (with_reducible first | exact Ext.refl _ | assumption | refine Ext.drew ?_ | refine Ext.drewN ?_ _ | refine Ext.alloc ?_ _ | refine Ext.trans ?_ (by with_reducible assumption)))
    go_enter Tryz.func57, Tryz.ntmps57
    go_upto_region 1 with (fail)
    obtain ⟨g0, hg0⟩ : ∃ g, w.heap.size = g := ⟨_, rfl⟩
    rw [hg0] at B0
    try rw [hg0]
    generalize w.alloc (.cells #[.int .i64 a, .int .i64 b, .int .i64 c, .int .i64 d] 40) = W0 at *
    have y0 := B0.cell 0
    have y1 := B0.cell 1
    have y2 := B0.cell 2
    have y3 := B0.cell 3
    have HE0 := Lib.hid e0
    clear e0 hg0
    go_wp2_with fail
    refine (HC.out _).mono ?_
    rintro _ w1 ⟨rfl, hb1⟩
    rw [errR_0]
    have HE1 := Lib.hid (HE0.out.trans hb1)
    have B1 := B0.ext hb1
    clear y0 y1 y2 y3 HE0 hb1 B0
    have x0 : ∀ x : WE w1, x.W.cell? ⟨g0, 0, none⟩ = some (.int .i64 a) := fun x => (B1.ext x.h).cell 0
    have x1 : ∀ x : WE w1, x.W.cell? ⟨g0, 1, none⟩ = some (.int .i64 b) := fun x => (B1.ext x.h).cell 1
    have x2 : ∀ x : WE w1, x.W.cell? ⟨g0, 2, none⟩ = some (.int .i64 c) := fun x => (B1.ext x.h).cell 2
    have x3 : ∀ x : WE w1, x.W.cell? ⟨g0, 3, none⟩ = some (.int .i64 d) := fun x => (B1.ext x.h).cell 3
    go_upto_region 4 with (fail)
    (refine wp_region_ext_tail (w0 := w1) 12 (by kernel_rfl) (by kernel_rfl) (by (repeat (with_reducible first | exact Ext.refl _ | assumption | refine Ext.drew ?_ | refine Ext.drewN ?_ _ | refine Ext.alloc ?_ _ | refine Ext.trans ?_ (by with_reducible assumption)))) ?_; simp only [List.take_succ_cons, List.take_zero, List.drop_succ_cons, List.drop_zero]; (repeat (go_big_quiet_step ((first
      | (go_at_call 62; first | exact quietE (HI1.out _ (HE1.out.trans (WE.h _))) | exact quietE (HI2.out _ (HE1.out.trans (WE.h _))))
      | (go_at_call 61; exact quietE (HT.out _ (by first | exact .inl rfl | exact .inr rfl) _ (HE1.out.trans (WE.h _)))))))); refine wpQuiet_nil ?_)
    rintro _ ⟨xq, rfl⟩
    obtain ⟨w6, hw6⟩ : ∃ w, xq.W = w := ⟨_, rfl⟩
    have hb6 : Ext w1 w6 := by rw [← hw6]; exact xq.h
    rw [hw6]
    clear hw6 x0 x1 x2 x3
    have B7 := Bk.at_ w6 9 #[.string t1, .string (tx b), .string t3, .string (tx d)] w6.heap.size rfl
    have e7 : Ext w1 (w6.alloc (.cells #[.string t1, .string (tx b), .string t3, .string (tx d)] 9)) := hb6.alloc _
    have HJ7 := Lib.hid (HJ.out w6.heap.size _ (B7.cell 0) (B7.cell 1) (B7.cell 2) (B7.cell 3) (by simp))
    go_wp2_with fail
    refine HJ7.out.mono ?_
    rintro _ w8 ⟨rfl, hb8⟩
    go_wp2_with fail
    go_ret2
    exact ⟨rfl, HE1.out.trans (e7.trans hb8)⟩

/-! ### Number -/
theorem atoi_bd {l : List UInt8} {v : Int} (h : Lib.atoiAll l = .ok v) : -9223372036854775808 ≤ v ∧ v ≤ 9223372036854775807 := by
  cases l with
  | nil => cases h
  | cons c r =>
    unfold Lib.atoiAll at h
    simp only at h
    generalize Lib.parseMag _ = pm at h
    cases pm
    case ok u =>
      simp only at h
      split at h
      · cases h
      · split at h
        · cases h
        · injection h with h
          subst h
          split <;> omega
    all_goals cases h
def NumR (s : ByteArray) (m : Nat) (e : Ending) : Prop := ∃ n : Int, e = .returned (.tuple #[.int .i64 n, .bool (numR s m).isSome]) ∧ ∀ v, numR s m = some v → n = (v : Int)
theorem numR_same {s : ByteArray} {m u : Nat} {v : Int} (hm : m ≤ 9) (h : numR s m = some u) (ha : Lib.atoiAll s.data.toList = .ok v) : v = u := by
  rw [numR_atoi h hm] at ha
  injection ha with ha
  exact ha.symm
theorem numR_not {s : ByteArray} {m : Nat} (hm : m ≤ 9) (ha : ∀ v, Lib.atoiAll s.data.toList ≠ .ok v) : numR s m = none := by
  cases h : numR s m with
  | none => rfl
  | some u => exact absurd (numR_atoi h hm) (ha _)
theorem NumR.no {s : ByteArray} {m : Nat} {n : Int} (h : numR s m = none) : NumR s m (.returned (.tuple #[.int .i64 n, .bool false])) := ⟨n, by rw [h]; rfl, fun v hv => by rw [h] at hv; cases hv⟩
theorem ItoaI_any (v : Int) (w : World) (h0 : -9223372036854775808 ≤ v) (h1 : v ≤ 9223372036854775807) (hp : PowG w) :
    Calls Tryz.prog 62 #[.int .i64 v] w fun e w' => e = .returned (.string ⟨(Lib.itoa v).toArray⟩) ∧ Ext w w' :=
  (Tryz.strconv_Itoa v h0 h1 w hp).mono fun e w' ⟨he, k, os, hw⟩ => ⟨he, by rw [hw]; exact ext_grow w k os⟩

set_option maxRecDepth 100000 in
set_option maxHeartbeats 1000000 in
theorem HNumber_any (s : ByteArray) (m : Nat) (w : World) (hs : s.size ≤ 140737488355328) (hm : m ≤ 9) (hG : StrG w) (hP : PowG w) :
    Calls Tryz.prog 97 #[.string s, .int .i64 m] w fun e w' => NumR s m e ∧ Ext w w' := by
  obtain ⟨hE, hN, hG0⟩ := errR_rules
  cases ha : Lib.atoiAll s.data.toList
  case ok v =>
    have HA := Lib.hid (Tryz.strconv_Atoi_ok s (by omega) v ha w)
    obtain ⟨b1, b2⟩ := atoi_bd ha
    have HI := Lib.hid fun W (e : Ext w W) => ItoaI_any v W b1 b2 (hP.ext e)
    have HSM := Lib.hid fun u (h : numR s m = some u) => numR_same hm h ha
    clear ha b1 b2 hP hG
    by_cases h0 : 0 ≤ v
    case neg =>
      have hno : numR s m = none := by
        cases h : numR s m with
        | none => rfl
        | some u => have := HSM.out u h; omega
      have HNO := Lib.hid (fun n : Int => NumR.no (n := n) hno)
      clear hno HSM HI
      go_enter Tryz.func97, Tryz.ntmps97
      go_wp2_with fail
      refine HA.out.mono ?_
      rintro _ w1 ⟨rfl, hw1⟩
      have hb1 : Ext w w1 := by rcases hw1 with rfl | ⟨t, rfl⟩; exact Ext.refl _; exact Lib.bytesWorld_below _ _ _
      clear hw1
      go_wp2_with fail
      go_ret2
      exact ⟨HNO.out _, hb1⟩
    by_cases h1 : s.size ≤ m
    case neg =>
      have hno : numR s m = none := by
        cases h : numR s m with
        | none => rfl
        | some u => exact absurd (numR_some h).1 h1
      have h1i : ¬ (s.size : Int) ≤ (m : Int) := by omega
      have HNO := Lib.hid (fun n : Int => NumR.no (n := n) hno)
      clear hno HSM HI h1
      go_enter Tryz.func97, Tryz.ntmps97
      go_wp2_with fail
      refine HA.out.mono ?_
      rintro _ w1 ⟨rfl, hw1⟩
      have hb1 : Ext w w1 := by rcases hw1 with rfl | ⟨t, rfl⟩; exact Ext.refl _; exact Lib.bytesWorld_below _ _ _
      clear hw1
      go_wp2_with fail
      go_ret2
      exact ⟨HNO.out _, hb1⟩
    obtain ⟨k, rfl⟩ := Int.eq_ofNat_of_zero_le h0
    have h1i : (s.size : Int) ≤ (m : Int) := by omega
    rw [digB_itoa] at HI
    have HY : Hid (digB k = s → numR s m = some k) := Lib.hid fun h => numR_of h1 h
    have HZ : Hid (∀ u, numR s m = some u → digB k = s) := Lib.hid fun u h => by
      have := HSM.out u h
      obtain rfl : k = u := by omega
      exact (numR_some h).2.2.2
    obtain ⟨t, ht⟩ : ∃ t, digB k = t := ⟨_, rfl⟩
    rw [ht] at HI HY HZ
    clear ht h1
    by_cases he : t = s
    · have hyes := HY.out he
      have HRS : Hid (NumR s m (.returned (.tuple #[.int .i64 (k : Int), .bool true]))) := Lib.hid ⟨_, by rw [hyes]; rfl, fun v hv => by rw [hyes] at hv; injection hv with hv; rw [hv]⟩
      subst he
      clear hyes HY HZ HSM
      go_enter Tryz.func97, Tryz.ntmps97
      go_wp2_with fail
      refine HA.out.mono ?_
      rintro _ w1 ⟨rfl, hw1⟩
      have hb1 : Ext w w1 := by rcases hw1 with rfl | ⟨t, rfl⟩; exact Ext.refl _; exact Lib.bytesWorld_below _ _ _
      clear hw1
      go_wp2_with fail
      refine (HI.out _ hb1).mono ?_
      rintro _ w2 ⟨rfl, hb2⟩
      go_wp2_with fail
      go_ret2
      exact ⟨HRS.out, hb1.trans hb2⟩
    · have hno : numR s m = none := by
        cases h : numR s m with
        | none => rfl
        | some u => exact absurd (HZ.out u h) he
      have HNO := Lib.hid (fun n : Int => NumR.no (n := n) hno)
      have q1 := (Lib.bytes_beq_false_iff t s).2 he
      clear hno HY HZ HSM
      go_enter Tryz.func97, Tryz.ntmps97
      go_wp2_with fail
      refine HA.out.mono ?_
      rintro _ w1 ⟨rfl, hw1⟩
      have hb1 : Ext w w1 := by rcases hw1 with rfl | ⟨t, rfl⟩; exact Ext.refl _; exact Lib.bytesWorld_below _ _ _
      clear hw1
      go_wp2_with fail
      refine (HI.out _ hb1).mono ?_
      rintro _ w2 ⟨rfl, hb2⟩
      have e2 := hb1.trans hb2
      go_wp2_with fail
      go_ret2
      exact ⟨HNO.out _, e2⟩
  case range =>
    obtain ⟨tp, p, hc⟩ := hG.rng.1
    have HA := Lib.hid (Tryz.strconv_Atoi_range s (by omega) ha (.iface tp p) w hc (.inr ⟨tp, p, rfl⟩))
    have HNO := Lib.hid (fun n : Int => NumR.no (n := n) (numR_not (s := s) hm (by rw [ha]; intro v h; cases h)))
    generalize Lib.atoiSat s.data.toList = sat at *
    clear ha hc hG hP
    go_enter Tryz.func97, Tryz.ntmps97
    go_wp2_with fail
    refine HA.out.mono ?_
    rintro _ w1 ⟨N, rfl, -, -, hb1⟩
    have hb1' : Ext w w1 := hb1
    clear hb1
    go_wp2_with fail
    go_ret2
    exact ⟨HNO.out _, hb1'⟩
  · obtain ⟨tp, p, hc⟩ := hG.syn.1
    have HA := Lib.hid (Tryz.strconv_Atoi_syntax s (by omega) ha (.iface tp p) w hc (.inr ⟨tp, p, rfl⟩))
    have HNO := Lib.hid (fun n : Int => NumR.no (n := n) (numR_not (s := s) hm (by rw [ha]; intro v h; cases h)))
    clear ha hc hG hP
    go_enter Tryz.func97, Tryz.ntmps97
    go_wp2_with fail
    refine HA.out.mono ?_
    rintro _ w1 ⟨N, rfl, -, -, hb1⟩
    have hb1' : Ext w w1 := hb1
    clear hb1
    go_wp2_with fail
    go_ret2
    exact ⟨HNO.out _, hb1'⟩
end Go.Proofs.YtfccbjfiionepaaGreatDoor
