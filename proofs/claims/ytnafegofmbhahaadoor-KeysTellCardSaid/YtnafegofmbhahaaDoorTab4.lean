/- table.first. -/
import Derived.Test.YtnafegofmbhahaaDoorTab3
import Derived.BigRegion
namespace Go.Proofs.YtnafegofmbhahaaDoor
open Go.RowKit Go.WideShapes
set_option linter.unusedVariables false
attribute [local go_sem ↓] Go.wp_at_zero Go.wp_at_succ

def byT (s : ByteArray) (i : Nat) : UInt8 := s.data.toList.getD i 0
theorem byT_get (s : ByteArray) (i : Nat) (h : i < s.size) : s[i]'h = byT s i := by
  have h2 : i < s.data.toList.length := by simpa using h
  unfold byT
  rw [List.getD_eq_getElem?_getD, List.getElem?_eq_getElem h2]
  simp
  rfl
/-- a text begins with a pair -/
def Fst (b : ByteArray) (p : Pr) (left : ByteArray) : Prop := p.key.size < 256 ∧ p.value.size < 256 ∧ b.data.toList = pairB p ++ left.data.toList
def fKey (b : ByteArray) : ByteArray := b.extract 1 (1 + (byT b 0).toNat)
def fRest (b : ByteArray) : ByteArray := b.extract (1 + (byT b 0).toNat + 2) b.size
def fN (b : ByteArray) : Nat := (byT b (1 + (byT b 0).toNat + 1)).toNat
def fG (b : ByteArray) : UInt8 := byT b (1 + (byT b 0).toNat)
def fOk (b : ByteArray) : Prop := 0 < b.size ∧ 3 + (byT b 0).toNat ≤ b.size ∧ (fG b).toNat ≤ 1 ∧ fN b ≤ (fRest b).size
def fP (b : ByteArray) : Pr := ⟨fKey b, (fRest b).extract 0 (fN b), decide ((fG b).toNat = 1)⟩
def fL (b : ByteArray) : ByteArray := (fRest b).extract (fN b) (fRest b).size
theorem list_size' (s : ByteArray) : s.data.toList.length = s.size := rfl
theorem ex_list' (s : ByteArray) (a b : Nat) : (s.extract a b).data.toList = (s.data.toList.drop a).take (b - a) := Lib.extract_data s a b
theorem ex_end' (s : ByteArray) (a : Nat) : (s.extract a s.size).data.toList = s.data.toList.drop a := by
  rw [ex_list', List.take_of_length_le (by rw [List.length_drop, list_size']; exact Nat.le_refl _)]
theorem byteOf_nat (k : UInt8) {n : Nat} (h : n = k.toNat) : byteOf (n : Int) = k := by rw [h]; exact byteOf_toNat k
theorem byteOf_size {n : Nat} (h : n < 256) : (byteOf (n : Int)).toNat = n := by
  have := toNat_byteOf (n : Int) (by omega) (by omega)
  omega
theorem gone_byte {g : UInt8} (h : g.toNat ≤ 1) : byteOf (goneN (decide (g.toNat = 1))) = g := by
  by_cases h1 : g.toNat = 1
  · rw [decide_eq_true h1]
    exact byteOf_nat g (n := 1) h1.symm
  · rw [decide_eq_false h1]
    exact byteOf_nat g (n := 0) (by omega)
theorem list_parts (l : List UInt8) (k : Nat) (h : 3 + k ≤ l.length) : l = l.getD 0 0 :: ((l.drop 1).take k ++ (l.getD (1 + k) 0 :: l.getD (1 + k + 1) 0 :: l.drop (1 + k + 2))) := by
  have e0 : l = l.getD 0 0 :: l.drop 1 := by
    cases l with
    | nil => simp at h
    | cons a l => rfl
  have e1 : l.drop 1 = (l.drop 1).take k ++ l.drop (1 + k) := by
    conv => lhs; rw [← List.take_append_drop k (l.drop 1)]
    rw [List.drop_drop]
  have e2 : l.drop (1 + k) = l.getD (1 + k) 0 :: l.drop (1 + k + 1) := by
    rw [List.drop_eq_getElem_cons (by omega : 1 + k < l.length), List.getD_eq_getElem?_getD, List.getElem?_eq_getElem (by omega : 1 + k < l.length)]
    rfl
  have e3 : l.drop (1 + k + 1) = l.getD (1 + k + 1) 0 :: l.drop (1 + k + 2) := by
    rw [List.drop_eq_getElem_cons (by omega : 1 + k + 1 < l.length), List.getD_eq_getElem?_getD, List.getElem?_eq_getElem (by omega : 1 + k + 1 < l.length)]
    rfl
  have e4 : l.drop 1 = (l.drop 1).take k ++ (l.getD (1 + k) 0 :: l.getD (1 + k + 1) 0 :: l.drop (1 + k + 2)) := by
    rw [← e3, ← e2]; exact e1
  exact e0.trans (congrArg (l.getD 0 0 :: ·) e4)
theorem fst_of {b : ByteArray} (h : fOk b) : Fst b (fP b) (fL b) := by
  obtain ⟨h0, h1, h2, h3⟩ := h
  have hk := (byT b 0).toNat_lt
  have hn : fN b < 256 := UInt8.toNat_lt _
  have hks : (fKey b).size = (byT b 0).toNat := by unfold fKey; rw [ByteArray.size_extract]; omega
  have hvs : ((fRest b).extract 0 (fN b)).size = fN b := by rw [ByteArray.size_extract]; omega
  refine ⟨by show (fKey b).size < 256; omega, by show ((fRest b).extract 0 (fN b)).size < 256; omega, ?_⟩
  have hl := list_parts b.data.toList (byT b 0).toNat (by rw [list_size']; exact h1)
  refine hl.trans ?_
  have hr : (fRest b).data.toList = b.data.toList.drop (1 + (byT b 0).toNat + 2) := ex_end' _ _
  have hv : ((fRest b).extract 0 (fN b)).data.toList ++ (fL b).data.toList = b.data.toList.drop (1 + (byT b 0).toNat + 2) := by
    unfold fL
    rw [ex_list', ex_end', List.drop_zero, Nat.sub_zero, List.take_append_drop, hr]
  have hkl : (fKey b).data.toList = (b.data.toList.drop 1).take (byT b 0).toNat := by
    unfold fKey; rw [ex_list', show 1 + (byT b 0).toNat - 1 = (byT b 0).toNat by omega]
  show _ = (byteOf (fKey b).size :: ((fKey b).data.toList ++ (byteOf (goneN (decide ((fG b).toNat = 1))) :: byteOf ((fRest b).extract 0 (fN b)).size :: ((fRest b).extract 0 (fN b)).data.toList))) ++ (fL b).data.toList
  rw [hks, hvs, byteOf_nat (byT b 0) rfl, gone_byte h2, show byteOf ((fN b : Nat) : Int) = byT b (1 + (byT b 0).toNat + 1) from byteOf_nat _ rfl, hkl, List.cons_append, List.append_assoc, List.cons_append, List.cons_append, hv]
  rfl
theorem getD_mid (a : UInt8) (K r : List UInt8) (i : Nat) : (a :: (K ++ r)).getD (1 + K.length + i) 0 = r.getD i 0 := by
  rw [show 1 + K.length + i = (K.length + i) + 1 by omega, List.getD_cons_succ, List.getD_eq_getElem?_getD, List.getElem?_append_right (by omega), show K.length + i - K.length = i by omega, List.getD_eq_getElem?_getD]
theorem pairB_cons (p : Pr) (x : List UInt8) : pairB p ++ x = byteOf p.key.size :: (p.key.data.toList ++ (byteOf (goneN p.gone) :: byteOf p.value.size :: (p.value.data.toList ++ x))) := by
  unfold pairB
  simp
theorem fst_ok {b : ByteArray} {p : Pr} {left : ByteArray} (h : Fst b p left) : fOk b := by
  obtain ⟨h1, h2, h3⟩ := h
  have hlen := congrArg List.length h3
  rw [List.length_append, pairB_len, list_size', list_size'] at hlen
  rw [pairB_cons] at h3
  have hk : byT b 0 = byteOf p.key.size := by unfold byT; rw [h3]; rfl
  have hkn : (byT b 0).toNat = p.key.size := by rw [hk, byteOf_size h1]
  have hkl : p.key.data.toList.length = p.key.size := list_size' _
  have hg : fG b = byteOf (goneN p.gone) := by
    unfold fG byT
    rw [show (b.data.toList.getD 0 0).toNat = p.key.size from hkn, h3, ← hkl]
    exact getD_mid _ _ _ 0
  have hn : fN b = p.value.size := by
    have : byT b (1 + (byT b 0).toNat + 1) = byteOf p.value.size := by
      rw [hkn]
      unfold byT
      rw [h3, ← hkl]
      exact getD_mid _ _ _ 1
    unfold fN
    rw [this, byteOf_size h2]
  refine ⟨by omega, by omega, ?_, ?_⟩
  · rw [hg]
    unfold goneN
    split <;> decide
  · rw [hn]
    unfold fRest
    rw [ByteArray.size_extract, hkn]
    omega
theorem byteOf_inj {a b : Nat} (ha : a < 256) (hb : b < 256) (h : byteOf (a : Int) = byteOf (b : Int)) : a = b := by
  rw [← byteOf_size ha, ← byteOf_size hb, h]
theorem fst_uniq {x y : List UInt8} {p q : Pr} (hp : p.key.size < 256 ∧ p.value.size < 256) (hq : q.key.size < 256 ∧ q.value.size < 256) (h : pairB p ++ x = pairB q ++ y) : p = q ∧ x = y := by
  rw [pairB_cons, pairB_cons] at h
  injection h with h1 h2
  have hk := byteOf_inj hp.1 hq.1 h1
  obtain ⟨h3, h4⟩ := List.append_inj h2 (by rw [list_size', list_size']; exact hk)
  injection h4 with h5 h6
  injection h6 with h7 h8
  have hv := byteOf_inj hp.2 hq.2 h7
  obtain ⟨h9, h10⟩ := List.append_inj h8 (by rw [list_size', list_size']; exact hv)
  obtain ⟨pk, pv, pg⟩ := p
  obtain ⟨qk, qv, qg⟩ := q
  have e1 : pk = qk := bytes_ext h3
  have e2 : pv = qv := bytes_ext h9
  have e3 : pg = qg := by
    cases pg <;> cases qg <;> first | rfl | (exact absurd (show byteOf 0 = byteOf 1 from h5) (by decide)) | (exact absurd (show byteOf 1 = byteOf 0 from h5) (by decide))
  subst e1 e2 e3
  exact ⟨rfl, h10⟩
end Go.Proofs.YtnafegofmbhahaaDoor
