/- what was put last: plain. -/
import Derived.Test.YtnafegofmbhahaaDoorStore3
namespace Go.Proofs.YtnafegofmbhahaaDoor
open Go.RowKit
set_option linter.unusedVariables false

theorem Chg.keep {w0 w1 w2 : World} {B sb : Nat} {v : Value} {es : List Pr} (e : Ext w0 w1) (h : StAt w1 B sb v es) (hB : w0.heap.size ≤ B) (k : Chg w1 w2 (fun k => k = sb ∨ v.ownBlock = some k)) : Ext w0 w2 := by
  refine ((e.chg (fun k => k = sb ∨ v.ownBlock = some k)).trans k fun x _ hx => hx).ext fun x hx hS => ?_
  rcases hS with rfl | hS
  · have := h.lo; omega
  · have := own_block h.own x hS; omega
def Tracks (es : List Pr) (key : ByteArray) (b : Bool) (wt : ByteArray) : Prop := isOk (getK es key) = b ∧ (b = true → getV es key = wt)
theorem tracks_nil (key wt : ByteArray) : Tracks [] key false wt := ⟨rfl, fun h => by cases h⟩
theorem storeL_asc {es : List Pr} (ho : Asc es) (p : Pr) : Asc (storeL es p) := by
  unfold storeL
  split
  · exact putL_asc ho p
  · exact ho
theorem get_store {es : List Pr} (ho : Asc es) {p : Pr} (h : putK es p = 0) (key : ByteArray) : getE (storeL es p) key = if p.key = key then some p else getE es key := by
  unfold storeL
  rw [if_pos h, get_put ho]
theorem store_bad {es : List Pr} {p : Pr} (h : putK es p ≠ 0) : storeL es p = es := if_neg h
theorem tracks_hit {es : List Pr} (ho : Asc es) {p : Pr} (h : putK es p = 0) {key wt : ByteArray} (hk : p.key = key) (hv : p.gone = false → p.value = wt) : Tracks (storeL es p) key (!p.gone) wt := by
  unfold Tracks getK getV
  rw [get_store ho h, if_pos hk]
  obtain ⟨pk, pv, pg⟩ := p
  cases pg with
  | true => exact ⟨rfl, fun h => by cases h⟩
  | false => exact ⟨rfl, fun _ => hv rfl⟩
theorem tracks_miss {es : List Pr} (ho : Asc es) {p : Pr} {key wt : ByteArray} {b : Bool} (h : putK es p ≠ 0 ∨ p.key ≠ key) (ht : Tracks es key b wt) : Tracks (storeL es p) key b wt := by
  by_cases hk : putK es p = 0
  · unfold Tracks getK getV
    rw [get_store ho hk, if_neg (h.resolve_left (not_not_intro hk))]
    exact ht
  · rw [store_bad hk]
    exact ht
theorem range_cat {es : List Pr} {a b c : ByteArray} (h1 : a = b ∨ kLt a b = true) (h2 : b = c ∨ kLt b c = true) : rangeL es a b ++ rangeL es b c = rangeL es a c := by
  have l1 := lowN_mono (es := es) h1
  have l2 := lowN_mono (es := es) h2
  unfold rangeL
  generalize lowN es a = i at *
  generalize lowN es b = j at *
  generalize lowN es c = k at *
  have e : es.drop j = (es.drop i).drop (j - i) := by rw [List.drop_drop]; congr 1; omega
  rw [e, show k - i = (j - i) + (k - j) by omega, List.take_add]
theorem range_len (es : List Pr) (a b : ByteArray) : (rangeL es a b).length ≤ es.length := by
  unfold rangeL
  rw [List.length_take, List.length_drop]
  omega
def ordAB (a b : ByteArray) : Prop := a = b ∨ kLt a b = true
instance (a b : ByteArray) : Decidable (ordAB a b) := inferInstanceAs (Decidable (a = b ∨ kLt a b = true))
theorem ord3 (a b : ByteArray) : (ordAB a b ∧ Op.bytesLess a.toList b.toList = true) ∨ (ordAB a b ∧ a = b) ∨ (¬ ordAB a b ∧ Op.bytesLess a.toList b.toList = false ∧ (a.toList == b.toList) = false) := by
  by_cases h : kLt a b = true
  · exact .inl ⟨.inr h, by rw [kLt_op]; exact h⟩
  · by_cases he : a = b
    · exact .inr (.inl ⟨.inl he, he⟩)
    · have hf : kLt a b = false := by cases hc : kLt a b with | false => rfl | true => exact absurd hc h
      exact .inr (.inr ⟨fun ho => ho.elim he h, by rw [kLt_op]; exact hf, (Lib.bytes_beq_false_iff a b).2 he⟩)
end Go.Proofs.YtnafegofmbhahaaDoor
