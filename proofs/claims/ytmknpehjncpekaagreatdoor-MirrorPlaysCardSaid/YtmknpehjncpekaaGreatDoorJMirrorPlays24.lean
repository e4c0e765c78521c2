/- witsame.Entries, whatever the entries. -/
import Derived.Test.YtmknpehjncpekaaGreatDoorJMirrorPlays4
import Derived.Lib.SlicesS
import Derived.Test.YtmknpehjncpekaaGreatDoorJMirrorPlays12
import Derived.Test.YtmknpehjncpekaaGreatDoorJMirrorPlays15
import Derived.BigRegion
import Derived.Test.YtmknpehjncpekaaGreatDoorJMirrorPlays19
import Derived.Test.YtmknpehjncpekaaGreatDoorJMirrorPlays17
import Derived.Test.YtmknpehjncpekaaGreatDoorJMirrorPlays13
import Derived.Test.YtmknpehjncpekaaGreatDoorJMirrorPlays9
import Derived.Test.YtmknpehjncpekaaGreatDoorJMirrorPlays23
import Derived.Test.YtmknpehjncpekaaGreatDoorJMirrorPlays20
import Derived.Test.YtmknpehjncpekaaGreatDoorJMirrorPlays5
namespace Go.Proofs.YtmknpehjncpekaaGreatDoor
open Go.RowKit
set_option linter.unusedVariables false
attribute [local go_sem ↓] Go.wp_at_zero Go.wp_at_succ

theorem ent_ext {a b : Ent} (h1 : a.time = b.time) (h2 : a.data = b.data) : a = b := by
  obtain ⟨_, _⟩ := a
  obtain ⟨_, _⟩ := b
  simp only at h1 h2
  subst h1 h2
  rfl
set_option maxRecDepth 100000 in
set_option maxHeartbeats 1000000 in
theorem Entries_not (A A' : Option Addr) (n n' c c' : Nat) (es es' : List Ent) (w : World) (hr : Rd w 2 A n c (es.flatMap Ent.cells)) (hr' : Rd w 2 A' n' c' (es'.flatMap Ent.cells)) (hm : n ≤ 9223372036854775807) (hm' : n' ≤ 9223372036854775807) (hne : es ≠ es') :
    Calls Tryz.prog 11 #[.slice A n c, .slice A' n' c'] w fun e w' => e = .returned (.bool false) ∧ Ext w w' := by
  have HX := Lib.hid hr.lenE
  have HX' := Lib.hid hr'.lenE
  have hl := hr.2.1
  have hl' := hr'.2.1
  have HNE := Lib.hid hne
  clear hne
  by_cases hnn : n = n'
  · subst hnn
    have H0 : Hid (es.take 0 = es'.take 0) := rfl
    go_enter Tryz.func11, Tryz.ntmps11
    go_wp2_with fail
    go_loopw [5] (fun x wr => ∃ j : Nat, x = .int .i64 j ∧ j ≤ n ∧ Ext w wr ∧ Hid (es.take j = es'.take j)) (fun x _ => n - (intOf x).toNat)
    case atStart => exact ⟨0, rfl, Nat.zero_le _, by (repeat (with_reducible first | exact Ext.refl _ | assumption | refine Ext.drew ?_ | refine Ext.drewN ?_ _ | refine Ext.alloc ?_ _ | refine Ext.trans ?_ (by with_reducible assumption))), H0⟩
    case round =>
      obtain ⟨j, rfl, hj, hbw, htk⟩ := hrel
      by_cases hc : j < n
      · have hgj := List.getElem?_eq_getElem (l := es) (i := j) (by rw [HX.out]; exact hc)
        have hgj' := List.getElem?_eq_getElem (l := es') (i := j) (by rw [HX'.out]; exact hc)
        obtain ⟨ad, rfl, hb, c0, c1⟩ := (hr.ext hbw).getE hgj
        obtain ⟨ad', rfl, hb', c0', c1'⟩ := (hr'.ext hbw).getE hgj'
        have hstep : es[j]'(by rw [HX.out]; exact hc) = es'[j]'(by rw [HX'.out]; exact hc) → es.take (j + 1) = es'.take (j + 1) := fun h => by
          rw [List.take_succ_eq_append_getElem (by rw [HX.out]; exact hc), List.take_succ_eq_append_getElem (by rw [HX'.out]; exact hc), htk.out, h]
        generalize es[j]'(by rw [HX.out]; exact hc) = e at *
        generalize es'[j]'(by rw [HX'.out]; exact hc) = e' at *
        obtain ⟨et, ed⟩ := e
        obtain ⟨ft, fd⟩ := e'
        simp only at c0 c1 c0' c1'
        have HST := Lib.hid hstep
        have hcN : (j : Int) < (n : Int) := by omega
        clear hgj hgj' hstep
        by_cases h1 : et = ft
        · subst h1
          by_cases h2 : ed = fd
          · subst h2
            have HT := Lib.hid (HST.out rfl)
            go_wp2_with fail
            go_quiet (fail)
            go_wp2_with fail
            go_roundw
            case rel => exact ⟨j + 1, by go_num, by omega, by (repeat (with_reducible first | exact Ext.refl _ | assumption | refine Ext.drew ?_ | refine Ext.drewN ?_ _ | refine Ext.alloc ?_ _ | refine Ext.trans ?_ (by with_reducible assumption))), HT⟩
            case measure => simp [intOf]; omega
          · have b2 := (Lib.bytes_beq_false_iff ed fd).2 h2
            clear h2
            go_wp2_with fail
            go_quiet (fail)
            go_wp2_with fail
            go_ret
            exact ⟨rfl, by (repeat (with_reducible first | exact Ext.refl _ | assumption | refine Ext.drew ?_ | refine Ext.drewN ?_ _ | refine Ext.alloc ?_ _ | refine Ext.trans ?_ (by with_reducible assumption)))⟩
        · have b1 : (et == ft) = false := beq_eq_false_iff_ne.2 h1
          clear h1
          go_wp2_with fail
          go_quiet (fail)
          go_wp2_with fail
          go_ret
          exact ⟨rfl, by (repeat (with_reducible first | exact Ext.refl _ | assumption | refine Ext.drew ?_ | refine Ext.drewN ?_ _ | refine Ext.alloc ?_ _ | refine Ext.trans ?_ (by with_reducible assumption)))⟩
      · exfalso
        obtain rfl : j = n := by omega
        refine HNE.out ?_
        have h := htk.out
        rw [List.take_of_length_le (by rw [HX.out]; exact Nat.le_refl _), List.take_of_length_le (by rw [HX'.out]; exact Nat.le_refl _)] at h
        exact h
  · have hnb : ((n : Int) == (n' : Int)) = false := beq_eq_false_iff_ne.2 (fun h => hnn (by omega))
    clear hnn
    go_enter Tryz.func11, Tryz.ntmps11
    go_wp2_with fail
    go_ret
    exact ⟨rfl, by (repeat (with_reducible first | exact Ext.refl _ | assumption | refine Ext.drew ?_ | refine Ext.drewN ?_ _ | refine Ext.alloc ?_ _ | refine Ext.trans ?_ (by with_reducible assumption)))⟩
set_option maxRecDepth 100000 in
theorem Entries_yes (A A' : Option Addr) (n c c' : Nat) (es : List Ent) (w : World) (hr : Rd w 2 A n c (es.flatMap Ent.cells)) (hr' : Rd w 2 A' n c' (es.flatMap Ent.cells)) (hm : n ≤ 9223372036854775807) :
    Calls Tryz.prog 11 #[.slice A n c, .slice A' n c'] w fun e w' => e = .returned (.bool true) ∧ Ext w w' := by
  have HX := Lib.hid hr.lenE
  have hl := hr.2.1
  have hl' := hr'.2.1
  go_enter Tryz.func11, Tryz.ntmps11
  go_wp2_with fail
  go_loopw [5] (fun x wr => ∃ j : Nat, x = .int .i64 j ∧ j ≤ n ∧ Ext w wr) (fun x _ => n - (intOf x).toNat)
  case atStart => exact ⟨0, rfl, Nat.zero_le _, by (repeat (with_reducible first | exact Ext.refl _ | assumption | refine Ext.drew ?_ | refine Ext.drewN ?_ _ | refine Ext.alloc ?_ _ | refine Ext.trans ?_ (by with_reducible assumption)))⟩
  case round =>
    obtain ⟨j, rfl, hj, hbw⟩ := hrel
    by_cases hc : j < n
    · have hgj := List.getElem?_eq_getElem (l := es) (i := j) (by rw [HX.out]; exact hc)
      obtain ⟨ad, rfl, hb, c0, c1⟩ := (hr.ext hbw).getE hgj
      obtain ⟨ad', rfl, hb', c0', c1'⟩ := (hr'.ext hbw).getE hgj
      generalize es[j]'(by rw [HX.out]; exact hc) = e at *
      have hcN : (j : Int) < (n : Int) := by omega
      go_wp2_with fail
      go_quiet (fail)
      go_wp2_with fail
      go_roundw
      case rel => exact ⟨j + 1, by go_num, by omega, by (repeat (with_reducible first | exact Ext.refl _ | assumption | refine Ext.drew ?_ | refine Ext.drewN ?_ _ | refine Ext.alloc ?_ _ | refine Ext.trans ?_ (by with_reducible assumption)))⟩
      case measure => simp [intOf]; omega
    · go_wp2_with fail
      go_ret
      exact ⟨rfl, by (repeat (with_reducible first | exact Ext.refl _ | assumption | refine Ext.drew ?_ | refine Ext.drewN ?_ _ | refine Ext.alloc ?_ _ | refine Ext.trans ?_ (by with_reducible assumption)))⟩
/-- are two lists the same? -/
noncomputable def entsB (es es' : List Ent) : Bool := @decide (es = es') (Classical.propDecidable _)
theorem Entries_any (A A' : Option Addr) (n n' c c' : Nat) (es es' : List Ent) (w : World) (hr : Rd w 2 A n c (es.flatMap Ent.cells)) (hr' : Rd w 2 A' n' c' (es'.flatMap Ent.cells)) (hm : c ≤ maxLen) (hm' : c' ≤ maxLen) :
    Calls Tryz.prog 11 #[.slice A n c, .slice A' n' c'] w fun e w' => e = .returned (.bool (entsB es es')) ∧ Ext w w' := by
  have h1 := hr.2.1
  have h2 := hr'.2.1
  unfold maxLen at hm hm'
  by_cases h : es = es'
  · subst h
    have hn : n' = n := hr'.lenE.symm.trans hr.lenE
    subst hn
    have hb : entsB es es = true := @decide_eq_true _ (Classical.propDecidable _) rfl
    rw [hb]
    exact Entries_yes A A' _ c c' es w hr hr' (by omega)
  · have hb : entsB es es' = false := by
      cases hq : entsB es es' with
      | false => rfl
      | true => exact absurd (@of_decide_eq_true _ (Classical.propDecidable _) hq) h
    rw [hb]
    exact Entries_not A A' n n' c c' es es' w hr hr' (by omega) (by omega) h
end Go.Proofs.YtmknpehjncpekaaGreatDoor

/- Two lists of one root: where they clash. The references' Clash, the program's Collide. -/
namespace Go.Proofs.YtmknpehjncpekaaGreatDoor
open Go.RowKit Go.WideShapes
set_option linter.unusedVariables false
attribute [local go_sem ↓] Go.wp_at_zero Go.wp_at_succ

/-! ### plain -/
def str0 (s : ByteArray) : ByteArray := ⟨#[0]⟩ ++ s
def topB (k : Nat) (a : List ByteArray) : List UInt8 := nodeB (ofL ((sumsD a).take k)) (ofL ((sumsD a).drop k))
def topS (k : Nat) (a : List ByteArray) : ByteArray := ⟨(topB k a).toArray⟩
def clashL (a b : List ByteArray) : ByteArray × ByteArray :=
  if h : 2 ≤ a.length ∧ half a.length < a.length then
    if topB (half a.length) a ≠ topB (half a.length) b then (topS (half a.length) a, topS (half a.length) b)
    else if a.take (half a.length) ≠ b.take (half a.length) then clashL (a.take (half a.length)) (b.take (half a.length))
    else clashL (a.drop (half a.length)) (b.drop (half a.length))
  else (str0 (a.headD ⟨#[]⟩), str0 (b.headD ⟨#[]⟩))
termination_by a.length
decreasing_by
  · rw [List.length_take]; omega
  · rw [List.length_drop]; have := half_pos a.length; omega
theorem clashL_one (x y : ByteArray) : clashL [x] [y] = (str0 x, str0 y) := by rw [clashL, dif_neg (by simp)]; rfl
theorem clashL_top {a b : List ByteArray} (h2 : 2 ≤ a.length) (hn : a.length ≤ 4096) (h : topB (half a.length) a ≠ topB (half a.length) b) : clashL a b = (topS (half a.length) a, topS (half a.length) b) := by
  rw [clashL, dif_pos ⟨h2, half_lt h2 hn⟩, if_pos h]
theorem clashL_left {a b : List ByteArray} (h2 : 2 ≤ a.length) (hn : a.length ≤ 4096) (h : topB (half a.length) a = topB (half a.length) b) (h' : a.take (half a.length) ≠ b.take (half a.length)) : clashL a b = clashL (a.take (half a.length)) (b.take (half a.length)) := by
  rw [clashL, dif_pos ⟨h2, half_lt h2 hn⟩, if_neg (not_not_intro h), if_pos h']
theorem clashL_right {a b : List ByteArray} (h2 : 2 ≤ a.length) (hn : a.length ≤ 4096) (h : topB (half a.length) a = topB (half a.length) b) (h' : a.take (half a.length) = b.take (half a.length)) : clashL a b = clashL (a.drop (half a.length)) (b.drop (half a.length)) := by
  rw [clashL, dif_pos ⟨h2, half_lt h2 hn⟩, if_neg (not_not_intro h), if_neg (not_not_intro h')]
theorem topS_ne {k : Nat} {a b : List ByteArray} (h : topB k a ≠ topB k b) : (topS k a).toList ≠ (topS k b).toList := by
  intro e
  apply h
  have h1 := congrArg ByteArray.toList (rfl : topS k a = topS k a)
  have h2 : topS k a = topS k b := by
    have := (Lib.bytes_beq_false_iff (topS k a) (topS k b))
    rcases Classical.em (topS k a = topS k b) with he | he
    · exact he
    · have h3 := this.2 he
      rw [e] at h3
      simp at h3
  have h4 := congrArg (fun s : ByteArray => s.data.toList) h2
  simpa [topS] using h4

/-! ### the references' -/
end Go.Proofs.YtmknpehjncpekaaGreatDoor

namespace Go.Proofs.YtmknpehjncpekaaGreatDoor
open Go.RowKit Go.WideShapes
set_option linter.unusedVariables false
attribute [local go_sem ↓] Go.wp_at_zero Go.wp_at_succ

theorem RTop_any (k : Nat) (a : List ByteArray) (w : World) (hl : a.length ≤ 4096) :
    Calls Tryz.prog 76 #[.int .i64 (ofL ((sumsD a).take k)), .int .i64 (ofL ((sumsD a).drop k))] w fun e w' => e = .returned (.string (topS k a)) ∧ Ext w w' :=
  RNodeBytes_any _ _ w (vld_ofL (allV_take (allV_sumsD a) k) (by rw [List.length_take, sumsD_len]; omega)) (vld_ofL (allV_drop (allV_sumsD a) k) (by rw [List.length_drop, sumsD_len]; omega))
end Go.Proofs.YtmknpehjncpekaaGreatDoor

namespace Go.Proofs.YtmknpehjncpekaaGreatDoor
open Go.RowKit Go.WideShapes
set_option linter.unusedVariables false
attribute [local go_sem ↓] Go.wp_at_zero Go.wp_at_succ

def allS (l : List ByteArray) : Bool := l.all fun s => decide (s.size ≤ 200)
theorem allS_snoc {l : List ByteArray} {k : Nat} {z : ByteArray} (hz : l[k]? = some z) : allS (l.take (k + 1)) = (allS (l.take k) && decide (z.size ≤ 200)) := by
  obtain ⟨h, rfl⟩ := List.getElem?_eq_some_iff.1 hz
  unfold allS
  rw [List.take_succ_eq_append_getElem h, List.all_append]
  simp only [List.all_cons, List.all_nil, Bool.and_true]
theorem allS_no {l : List ByteArray} {k : Nat} {z : ByteArray} (hz : l[k]? = some z) (hv : ¬ z.size ≤ 200) : allS l = false := by
  cases h : allS l
  · rfl
  · exact absurd (of_decide_eq_true (List.all_eq_true.1 h z (List.mem_of_getElem? hz))) hv
theorem dataK_allS {l : List ByteArray} (h : l.length ≤ 200) : dataK l = if allS l = true then 0 else 4 := by
  cases hs : allS l
  · rw [if_neg (by decide)]
    refine dataK_bad fun hk => ?_
    have : allS l = true := List.all_eq_true.2 fun s hs => decide_eq_true (hk.2 s hs)
    rw [hs] at this; cases this
  · rw [if_pos rfl]
    exact dataK_ok ⟨h, fun s hm => of_decide_eq_true (List.all_eq_true.1 hs s hm)⟩
def idxS (l : List ByteArray) (e : Ending) : Prop := ∃ i : Int, e = .returned (.int .i64 i) ∧ (allS l = true → i = -1) ∧ (allS l = false → 0 ≤ i)
def sumsK (l : List ByteArray) : List Int := if dataK l = 0 then sumsD l else []
end Go.Proofs.YtmknpehjncpekaaGreatDoor

namespace Go.Proofs.YtmknpehjncpekaaGreatDoor
open Go.RowKit Go.WideShapes
set_option linter.unusedVariables false
attribute [local go_sem ↓] Go.wp_at_zero Go.wp_at_succ

def okL (xs : List Int) : Prop := allV xs = true ∧ xs.length ≤ 4096
theorem ofL_pos (xs : List Int) (h : okL xs) : 0 ≤ ofL xs := (vld_true (vld_ofL h.1 h.2)).1
theorem okL_take (a : List ByteArray) (k : Nat) (hl : a.length ≤ 4096) : okL ((sumsD a).take k) := ⟨allV_take (allV_sumsD a) k, by rw [List.length_take, sumsD_len]; omega⟩
theorem okL_drop (a : List ByteArray) (k : Nat) (hl : a.length ≤ 4096) : okL ((sumsD a).drop k) := ⟨allV_drop (allV_sumsD a) k, by rw [List.length_drop, sumsD_len]; omega⟩
theorem TTop_any (k : Nat) (a : List ByteArray) (w : World) (hl : a.length ≤ 4096) :
    Calls Tryz.prog 85 #[.int .i64 (ofL ((sumsD a).take k)), .int .i64 (ofL ((sumsD a).drop k))] w fun e w' => e = .returned (.string (topS k a)) ∧ Ext w w' :=
  BytesOf_any _ _ w (vld_true (vld_ofL (allV_take (allV_sumsD a) k) (by rw [List.length_take, sumsD_len]; omega))).1 (vld_true (vld_ofL (allV_drop (allV_sumsD a) k) (by rw [List.length_drop, sumsD_len]; omega))).1

def collK (a b : List ByteArray) : Int :=
  if dataK a ≠ 0 then 4 else if dataK b ≠ 0 then 4 else if a.length ≠ b.length then 3 else if a = b then 7 else if ofL (sumsD a) ≠ ofL (sumsD b) then 5 else 0
def collV (a b : List ByteArray) : ByteArray × ByteArray := if collK a b = 0 then clashL a b else (⟨#[]⟩, ⟨#[]⟩)
theorem coll_ways (a b : List ByteArray) : (¬ dataOk a ∧ collK a b = 4) ∨ (dataOk a ∧ ¬ dataOk b ∧ collK a b = 4) ∨ (dataOk a ∧ dataOk b ∧ a.length ≠ b.length ∧ collK a b = 3) ∨ (dataOk a ∧ dataOk b ∧ a.length = b.length ∧ a = b ∧ collK a b = 7) ∨ (dataOk a ∧ dataOk b ∧ a.length = b.length ∧ a ≠ b ∧ ofL (sumsD a) ≠ ofL (sumsD b) ∧ collK a b = 5) ∨ (dataOk a ∧ dataOk b ∧ a.length = b.length ∧ a ≠ b ∧ ofL (sumsD a) = ofL (sumsD b) ∧ collK a b = 0) := by
  unfold collK
  by_cases ha : dataOk a
  · rw [dataK_ok ha, if_neg (by decide)]
    by_cases hb : dataOk b
    · rw [dataK_ok hb, if_neg (by decide)]
      by_cases hl : a.length = b.length
      · rw [if_neg (not_not_intro hl)]
        by_cases he : a = b
        · rw [if_pos he]; exact .inr (.inr (.inr (.inl ⟨ha, hb, hl, he, rfl⟩)))
        · rw [if_neg he]
          by_cases ho : ofL (sumsD a) = ofL (sumsD b)
          · rw [if_neg (not_not_intro ho)]; exact .inr (.inr (.inr (.inr (.inr ⟨ha, hb, hl, he, ho, rfl⟩))))
          · rw [if_pos ho]; exact .inr (.inr (.inr (.inr (.inl ⟨ha, hb, hl, he, ho, rfl⟩))))
      · rw [if_pos hl]; exact .inr (.inr (.inl ⟨ha, hb, hl, rfl⟩))
    · rw [dataK_bad hb, if_pos (by decide)]; exact .inr (.inl ⟨ha, hb, rfl⟩)
  · rw [dataK_bad ha, if_pos (by decide)]; exact .inl ⟨ha, rfl⟩

end Go.Proofs.YtmknpehjncpekaaGreatDoor

/- Two faces of a log: plain; and wittop.one. -/
namespace Go.Proofs.YtmknpehjncpekaaGreatDoor
open Go.RowKit Go.WideShapes
set_option linter.unusedVariables false
attribute [local go_sem ↓] Go.wp_at_zero Go.wp_at_succ

theorem entB_inj {a b : Ent} (ha : a.ok) (hb : b.ok) (h : a.bytes = b.bytes) : a = b := by
  have h1 := takeE_bytes a ⟨#[]⟩ ha
  have h2 := takeE_bytes b ⟨#[]⟩ hb
  rw [h, h2] at h1
  injection h1 with h1
  injection h1 with h1
  exact h1.symm
theorem entsB_inj : ∀ {a b : List Ent}, (∀ e ∈ a, e.ok) → (∀ e ∈ b, e.ok) → a.map Ent.bytes = b.map Ent.bytes → a = b
  | [], [], _, _, _ => rfl
  | [], y :: b, _, _, h => by cases h
  | x :: a, [], _, _, h => by cases h
  | x :: a, y :: b, ha, hb, h => by
    rw [List.map_cons, List.map_cons] at h
    injection h with h1 h2
    rw [entB_inj (ha x (by simp)) (hb y (by simp)) h1, entsB_inj (fun e he => ha e (by simp [he])) (fun e he => hb e (by simp [he])) h2]
theorem sums_bytes (es : List Ent) : sumsD (es.map Ent.bytes) = es.map Ent.leaf := by
  unfold sumsD
  rw [List.map_map]
  refine List.map_congr_left fun e _ => ?_
  simp only [Function.comp_apply, Ent.leaf]
/-! ### two texts of one sum -/
theorem str0_inj {x y : ByteArray} (h : str0 x = str0 y) : x = y := by
  have h1 := congrArg (fun s : ByteArray => s.data.toList) h
  simp only [str0, toList_cat] at h1
  have h2 := List.append_cancel_left h1
  cases x; cases y
  simp at h2
  rw [h2]
theorem sum_str0 (x : ByteArray) : sumL (str0 x).data.toList = leafL x.data.toList := by unfold str0; rw [toList_cat]; rfl
theorem sum_topS (k : Nat) (a : List ByteArray) : sumL (topS k a).data.toList = nodeL (ofL ((sumsD a).take k)) (ofL ((sumsD a).drop k)) := rfl
theorem topS_size (k : Nat) (a : List ByteArray) : (topS k a).size = 9 := rfl
theorem str0_size (x : ByteArray) : (str0 x).size = 1 + x.size := by unfold str0; rw [size_cat]; rfl
theorem ofL_sums_node {a : List ByteArray} (h2 : 2 ≤ a.length) (hn : a.length ≤ 4096) : ofL (sumsD a) = nodeL (ofL ((sumsD a).take (half a.length))) (ofL ((sumsD a).drop (half a.length))) := by
  have := ofL_node (xs := sumsD a) (by rw [sumsD_len]; exact h2) (by rw [sumsD_len]; exact hn)
  rwa [sumsD_len] at this
theorem clash_law (N : Nat) : ∀ (a b : List ByteArray), a.length ≤ N → 1 ≤ a.length → a.length ≤ 4096 → a.length = b.length → (∀ s ∈ a, s.size ≤ 200) → (∀ s ∈ b, s.size ≤ 200) → a ≠ b → ofL (sumsD a) = ofL (sumsD b) →
    (clashL a b).1 ≠ (clashL a b).2 ∧ sumL (clashL a b).1.data.toList = sumL (clashL a b).2.data.toList ∧ (clashL a b).1.size ≤ 1000 ∧ (clashL a b).2.size ≤ 1000 := by
  induction N with
  | zero => intro a b h h1; omega
  | succ N ih =>
    intro a b h h1 hn hl ha hb hne ho
    by_cases h2 : 2 ≤ a.length
    · have hk := half_lt h2 hn
      have hk0 := half_pos a.length
      have hna := ofL_sums_node h2 hn
      have hnb := ofL_sums_node (a := b) (by omega) (by omega)
      rw [← hl] at hnb
      by_cases ht : topB (half a.length) a = topB (half a.length) b
      · obtain ⟨e1, e2⟩ := nodeB_inj (vld_ofL (allV_take (allV_sumsD a) _) (by rw [List.length_take, sumsD_len]; omega)) (vld_ofL (allV_drop (allV_sumsD a) _) (by rw [List.length_drop, sumsD_len]; omega)) (vld_ofL (allV_take (allV_sumsD b) _) (by rw [List.length_take, sumsD_len]; omega)) (vld_ofL (allV_drop (allV_sumsD b) _) (by rw [List.length_drop, sumsD_len]; omega)) ht
        rw [sumsD_take, sumsD_take] at e1
        rw [sumsD_drop, sumsD_drop] at e2
        by_cases he : a.take (half a.length) = b.take (half a.length)
        · rw [clashL_right h2 hn ht he]
          refine ih _ _ (by rw [List.length_drop]; omega) (by rw [List.length_drop]; omega) (by rw [List.length_drop]; omega) (by rw [List.length_drop, List.length_drop, hl]) (fun s hs => ha s (List.mem_of_mem_drop hs)) (fun s hs => hb s (List.mem_of_mem_drop hs)) ?_ e2
          intro hd
          apply hne
          rw [← List.take_append_drop (half a.length) a, ← List.take_append_drop (half a.length) b, List.take_append_drop, List.take_append_drop] at *
          rw [← List.take_append_drop (half a.length) a, he, hd, List.take_append_drop]
        · rw [clashL_left h2 hn ht he]
          exact ih _ _ (by rw [List.length_take]; omega) (by rw [List.length_take]; omega) (by rw [List.length_take]; omega) (by rw [List.length_take, List.length_take, hl]) (fun s hs => ha s (List.mem_of_mem_take hs)) (fun s hs => hb s (List.mem_of_mem_take hs)) he e1
      · rw [clashL_top h2 hn ht]
        refine ⟨fun e => topS_ne ht (congrArg ByteArray.toList e), ?_, by rw [topS_size]; omega, by rw [topS_size]; omega⟩
        rw [sum_topS, sum_topS, ← hna, ← hnb, ho]
    · have h0 : a.length = 1 := by omega
      obtain ⟨x, rfl⟩ := List.length_eq_one_iff.1 h0
      obtain ⟨y, rfl⟩ := List.length_eq_one_iff.1 (hl ▸ h0 : b.length = 1)
      rw [clashL_one]
      have hx := ha x (by simp)
      have hy := hb y (by simp)
      refine ⟨fun e => hne (by rw [str0_inj e]), ?_, by rw [str0_size]; omega, by rw [str0_size]; omega⟩
      rw [sum_str0, sum_str0]
      have h3 : ofL [leafL x.data.toList] = ofL [leafL y.data.toList] := ho
      rwa [ofL_one, ofL_one] at h3
/-- two lists of one root clash -/
theorem two_clash {l o : List Ent} (hl : entsOk l) (ho : entsOk o) (hn : l.length = o.length) (h1 : 1 ≤ l.length) (hne : l ≠ o) (hsl : ∀ s ∈ l.map Ent.bytes, s.size ≤ 200) (hso : ∀ s ∈ o.map Ent.bytes, s.size ≤ 200) (hr : ofL (l.map Ent.leaf) = ofL (o.map Ent.leaf)) :
    collK (l.map Ent.bytes) (o.map Ent.bytes) = 0 ∧ (collV (l.map Ent.bytes) (o.map Ent.bytes)).1 ≠ (collV (l.map Ent.bytes) (o.map Ent.bytes)).2 ∧ sumL (collV (l.map Ent.bytes) (o.map Ent.bytes)).1.data.toList = sumL (collV (l.map Ent.bytes) (o.map Ent.bytes)).2.data.toList ∧ (collV (l.map Ent.bytes) (o.map Ent.bytes)).1.size ≤ 1000 ∧ (collV (l.map Ent.bytes) (o.map Ent.bytes)).2.size ≤ 1000 := by
  have hb : l.map Ent.bytes ≠ o.map Ent.bytes := fun e => hne (entsB_inj hl.2 ho.2 e)
  have hll : (l.map Ent.bytes).length = (o.map Ent.bytes).length := by rw [List.length_map, List.length_map, hn]
  have hd1 : dataOk (l.map Ent.bytes) := ⟨by rw [List.length_map]; exact hl.1, hsl⟩
  have hd2 : dataOk (o.map Ent.bytes) := ⟨by rw [List.length_map]; exact ho.1, hso⟩
  have hs : ofL (sumsD (l.map Ent.bytes)) = ofL (sumsD (o.map Ent.bytes)) := by rw [sums_bytes, sums_bytes, hr]
  have hk : collK (l.map Ent.bytes) (o.map Ent.bytes) = 0 := by
    unfold collK
    rw [dataK_ok hd1, dataK_ok hd2, if_neg (by decide), if_neg (by decide), if_neg (not_not_intro hll), if_neg hb, if_neg (not_not_intro hs)]
  have hv : collV (l.map Ent.bytes) (o.map Ent.bytes) = clashL (l.map Ent.bytes) (o.map Ent.bytes) := if_pos hk
  rw [hv]
  exact ⟨hk, clash_law (l.map Ent.bytes).length _ _ (Nat.le_refl _) (by rw [List.length_map]; exact h1) (by have := hd1.1; omega) hll hsl hso hb hs⟩

/-! ### the closed fact -/
theorem half2 : half 2 = 1 := by decide
theorem one_way : wayL [5, 6] 1 = [5] := by
  rw [wayL, dif_pos (by rw [show ([5, 6] : List Int).length = 2 from rfl, half2]; decide)]
  show (if 1 < half 2 then _ else wayL (List.drop (half 2) [5, 6]) (1 - half 2) ++ [ofL (List.take (half 2) [5, 6])]) = _
  rw [half2, if_neg (by decide)]
  show wayL [6] 0 ++ [ofL [5]] = [5]
  rw [ofL_one, wayL, dif_neg (by decide)]
  rfl
theorem one_leafs : leafsOk [5, 6] := ⟨by decide, by decide⟩
theorem one_pm : pmK [5, 6] 1 2 = 0 ∧ pmV [5, 6] 1 2 = [5] := by
  have h := pmK_ok (i := 1) (m := 2) one_leafs ⟨by decide, by decide, by decide⟩
  exact ⟨h, by unfold pmV; rw [if_pos h]; exact one_way⟩
theorem one_steps : stepsN 1 2 = 1 := by
  rw [stepsN, dif_pos (by rw [half2]; decide), half2, if_neg (by decide)]
  show stepsN 0 1 + 1 = 1
  rw [stepsN, dif_neg (by decide)]
theorem one_check : pcheck (nodeL 5 6) 2 1 6 [5] = 0 := by
  refine pcheck_ok ⟨by decide, by decide, by decide⟩ ⟨vld_node 5 6, by decide, by decide⟩ (by show 1 = stepsN 1 2; rw [one_steps]) ?_
  show upL 1 2 6 [5] = nodeL 5 6
  rw [upL, dif_pos (by rw [half2]; decide), half2, if_neg (by decide)]
  show nodeL ([5].getLastD 0) (upL 0 1 6 ([5] : List Int).dropLast) = nodeL 5 6
  rw [upL, dif_neg (by decide)]
  rfl
theorem two_rd (w : World) : Rd (w.alloc (.cells #[.int .i64 5, .int .i64 6] 3)) 1 (some ⟨w.heap.size, 0, none⟩) 2 2 (([5, 6] : List Int).map (Value.int .i64)) :=
  ⟨rfl, Nat.le_refl _, fun _ => ⟨_, rfl, by simp, news_new w 3 _ _ rfl⟩⟩
end Go.Proofs.YtmknpehjncpekaaGreatDoor

/- wittop.follow: a mirror hears all of a log. -/
namespace Go.Proofs.YtmknpehjncpekaaGreatDoor
open Go.RowKit Go.WideShapes
set_option linter.unusedVariables false
attribute [local go_sem ↓] Go.wp_at_zero Go.wp_at_succ

/-- a mirror that heard so many of a log of n -/
def fol (key : Int) (es : List Ent) (h : Hd) (n a : Nat) : Mi := if a < n then pg key es 0 hd00 h a else st key es n h
theorem fol_lt {key : Int} {es : List Ent} {h : Hd} {n a : Nat} (k : a < n) : fol key es h n a = pg key es 0 hd00 h a := if_pos k
theorem fol_ge {key : Int} {es : List Ent} {h : Hd} {n a : Nat} (k : ¬ a < n) : fol key es h n a = st key es n h := if_neg k
/-- a part of a slice of entries -/
theorem Rd.partE {w : World} {ad : Addr} {n c a b : Nat} {es : List Ent} (h : Rd w 2 (some ad) n c (es.flatMap Ent.cells)) (hab : a ≤ b) (hb : b ≤ n) : Rd w 2 (some (ad.add (a * 2))) (b - a) (c - a) (((es.take b).drop a).flatMap Ent.cells) := by
  have hx := h.lenE
  have hc := h.2.1
  refine ⟨?_, by omega, fun hn => ?_⟩
  · rw [flat_len Ent.cells 2 (fun _ => rfl), List.length_drop, List.length_take, Nat.min_eq_left (by omega)]
  · obtain ⟨ad', e, hl, hcell⟩ := h.2.2 (by omega)
    injection e with e
    subst e
    refine ⟨_, rfl, by rw [blk_add]; exact hl, fun j u hu => ?_⟩
    rw [add_add']
    refine hcell _ u ?_
    obtain ⟨i, r, y, hi, hr, rfl, hy, hru⟩ := flat_get Ent.cells 2 (fun _ => rfl) _ _ _ hu
    have h1 : es[a + i]? = some y := by
      rw [List.getElem?_drop, List.getElem?_take] at hy
      split at hy
      · exact hy
      · cases hy
    have := flat_nth (f := Ent.cells) (k := 2) (fun _ => rfl) es (a + i) y r h1 hr
    rw [hru] at this
    rw [← this]
    congr 1
    rw [Nat.add_mul]; omega

theorem field_want (a b c : Int) (W : World) : (Instr.field 43 (.agg #[.int .i64 a, .int .i64 b, .int .i64 c]) 0).run Tryz.prog W = .ok (.int .i64 a) W := by kernel_rfl
/-- a mirror of none hears a head -/
theorem fol_head (P : Nat → Prop) (mb : Nat) (key : Int) (es : List Ent) (h : Hd) (n : Nat) (w0 W : World) (hE : Ext w0 W) (hD : DebG w0) (hPow : PowG w0) (hPn : ∀ g, W.heap.size ≤ g → P g) (hM : MM 54 W P mb (st key es 0 hd00)) (hn1 : 1 ≤ n) (hv : verK h key = 0) (hs : h.size = (n : Int)) :
    Calls Tryz.prog 10 #[.pointer (some ⟨mb, 0, none⟩), .agg #[.int .i64 1, .int .i64 h.size, .int .i64 h.root, .int .i64 h.time, .int .i64 h.sign, .slice none 0 0, .slice none 0 0]] W fun e w' => e = .returned .nilIface ∧ MM 54 w' P mb (pg key es 0 hd00 h 0) ∧ Chg W w' P := by
  have h1 := Hear_any P mb (st key es 0 hd00) ⟨1, h, [], []⟩ none 0 0 none 0 0 W hM hPn (hD.ext hE) (hPow.ext hE) (Rd.nil _ _ _ _) (Nat.zero_le _) (Rd.nil _ _ _ _) (Nat.zero_le _)
  rw [st_hear (Nat.zero_le _) hv (by rw [hs]; omega)] at h1
  exact h1
/-- and a page -/
theorem fol_some (P : Nat → Prop) (mb : Nat) (key : Int) (es : List Ent) (h : Hd) (ad : Addr) (n c a b : Nat) (w0 W : World) (hE : Ext w0 W) (hD : DebG w0) (hPow : PowG w0) (hPn : ∀ g, W.heap.size ≤ g → P g) (hM : MM 54 W P mb (pg key es 0 hd00 h a)) (ha : a < n) (hb : b = min n (a + 16))
    (hr : Rd W 2 (some ad) n c (es.flatMap Ent.cells)) (hm : c ≤ maxLen) (hk : entsOk es) (hs : h.size = (n : Int)) (hro : h.root = ofL (es.map Ent.leaf)) :
    Calls Tryz.prog 10 #[.pointer (some ⟨mb, 0, none⟩), .agg #[.int .i64 2, .int .i64 0, .int .i64 0, .int .i64 0, .int .i64 0, .slice (some (ad.add (a * 2))) (b - a) (c - a), .slice none 0 0]] W fun e w' => e = .returned .nilIface ∧ MM 54 w' P mb (fol key es h n b) ∧ Chg W w' P := by
  have hx := hr.lenE
  have htk : es.take n = es := List.take_of_length_le (by omega)
  have hnc := hr.2.1
  have hrW := hr.partE (a := a) (b := b) (by omega) (by omega)
  have h1 := Hear_any P mb (pg key es 0 hd00 h a) ⟨2, hd00, (es.take b).drop a, []⟩ (some (ad.add (a * 2))) (b - a) (c - a) none 0 0 W hM hPn (hD.ext hE) (hPow.ext hE) hrW (by omega) (Rd.nil _ _ _ _) (Nat.zero_le _)
  rw [pg_hear (Nat.zero_le _) ha (by omega) hs (by rw [htk]; exact hk) (by rw [htk]; exact hro) (by omega)] at h1
  have e2 : (if 0 = 0 ∧ b = n then st key es n h else pg key es 0 hd00 h b) = fol key es h n b := by
    by_cases h2 : b < n
    · rw [fol_lt h2, if_neg (by omega)]
    · rw [fol_ge h2, if_pos ⟨rfl, by omega⟩]
  rw [e2] at h1
  exact h1
/-- a head that tells nothing new -/
theorem st_same {key : Int} {es : List Ent} {o : Nat} {hd h : Hd} {l : List Ent} {ps : List Int} (ho : o ≤ es.length) (hk : entsOk (es.take o)) (hv : verK h key = 0) (hs : h.size = (o : Int)) (hr : h.root = ofL ((es.take o).map Ent.leaf)) (ht : h.time = 0) (hds : hd.size = (o : Int)) (hdt : 0 ≤ hd.time) :
    (st key es o hd).hear ⟨1, h, l, ps⟩ = (st key es o hd, 0) := by
  rw [hear_head rfl]
  have hlo : (st key es o hd).own.length = o := by show (es.take o).length = o; rw [List.length_take]; omega
  unfold Mi.hearH
  rw [hlo, if_neg (show ¬ verK h (st key es o hd).key ≠ 0 from not_not_intro hv), if_neg, if_neg (by omega), if_neg]
  · unfold betB
    show ¬ (decide (hd.size < h.size) || (decide (h.size = hd.size) && decide (hd.time < h.time))) = true
    have h1 : ¬ hd.size < h.size := by omega
    have h2 : ¬ hd.time < h.time := by omega
    simp [h1, h2]
  · rintro (h1 | ⟨_, h1⟩)
    · omega
    · exact h1 (by show h.root = rootE (es.take o); rw [rootE_ok hk, hr])
end Go.Proofs.YtmknpehjncpekaaGreatDoor

/- witsame.Error at its own number. -/
namespace Go.Proofs.YtmknpehjncpekaaGreatDoor
open Go.RowKit
theorem errIs_eq (k : Int) : errIs k k = true := by unfold errIs; simp
theorem Error_is (k : Int) (w : World) (hg : ErrG w) : Calls Tryz.prog 6 #[errR k, .int .i64 k] w fun e w' => e = .returned (.bool true) ∧ Ext w w' :=
  (Error_any k k w hg).mono fun e w' hh => ⟨hh.1.trans (by rw [errIs_eq]), hh.2⟩
end Go.Proofs.YtmknpehjncpekaaGreatDoor
