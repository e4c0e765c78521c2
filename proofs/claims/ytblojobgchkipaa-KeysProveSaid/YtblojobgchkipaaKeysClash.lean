/- Keys: witlaw3.clash. -/
import Derived.Test.YtblojobgchkipaaKeysPure
import Derived.Test.YtblojobgchkipaaUp
import Derived.Lib.SlicesS
import Derived.Deep.DeepCutAuto
import Derived.Deep.CutRange
namespace Go.Proofs.Ytblojobgchkipaa
open Go.RowKit
set_option linter.unusedVariables false
attribute [local go_sem ↓] Go.wp_at_zero Go.wp_at_succ

theorem nodeS_ne {a b c d : Int} (ha : vld a = true) (hb : vld b = true) (hc : vld c = true) (hd : vld d = true) (h : ¬ (a = c ∧ b = d)) : ((⟨(nodeB a b).toArray⟩ : ByteArray).toList == (⟨(nodeB c d).toArray⟩ : ByteArray).toList) = false := by
  refine (Lib.bytes_beq_false_iff _ _).2 fun e => h (nodeB_inj ha hb hc hd ?_)
  have := congrArg (fun s : ByteArray => s.data.toList) e
  simpa using this
theorem nodeB_ne {a b c d : Int} (ha : vld a = true) (hb : vld b = true) (hc : vld c = true) (hd : vld d = true) (h : ¬ (a = c ∧ b = d)) : (nodeB a b == nodeB c d) = false := by
  rw [beq_eq_false_iff_ne]
  exact fun e => h (nodeB_inj ha hb hc hd e)
theorem bits_at (p i : Nat) (hi : i < 8) : (bitsS p)[7 - i]'(by show 7 - i < 8; omega) = if p / 2 ^ i % 2 = 1 then 49 else 48 := by
  have h : (bitsS p)[7 - i]'(by show 7 - i < 8; omega) = bitB p (7 - i) := by
    show ((bitsL p).toArray)[7 - i]'_ = _
    simp [bitsL]
  rw [h]
  unfold bitB
  rw [show 7 - (7 - i) = i by omega]

theorem bits_test (p : Nat) (bs : ByteArray) (e : bitsS p = bs) (i : Nat) (hi : i < 8) (h : 7 - i < bs.size) : (((bs[7 - i]).toNat : Int) == 49) = decide (p / 2 ^ i % 2 = 1) := by
  subst e
  rw [bits_at p i hi]
  split <;> simp [*]
theorem sumL_nodeS (a b : Int) : sumL (⟨(nodeB a b).toArray⟩ : ByteArray).data.toList = nodeL a b := by simp [nodeL]
theorem nodeS_size (a b : Int) : (⟨(nodeB a b).toArray⟩ : ByteArray).size ≤ maxLen := by
  show (nodeB a b).toArray.size ≤ maxLen
  rw [List.size_toArray, nodeB_len]
  unfold maxLen
  omega

set_option maxRecDepth 100000 in
set_option maxHeartbeats 1000000 in
theorem clash_true (a b : Int) (p : Nat) (A : Option Addr) (c : Nat) (l : List Int) (w : World) (hr : Rd w 1 A 8 c (l.map (Value.int .i64))) (hm : c ≤ maxLen) (ha : vld a = true) (hb : vld b = true) (hp : p < 256) (hv : allV l = true) (hu : upKV p a l = upKV p b l) :
    Calls Try.prog 17 #[.int .i64 a, .int .i64 b, .string (bitsS p), .slice A 8 c] w fun e w' => e = .returned (.bool true) ∧ Ext w w' := by
  have HX := Lib.hid hr.lenI
  have HL := Lib.hid hr.2.1
  have hms : c ≤ 9223372036854775807 := by unfold maxLen at hm; omega
  by_cases hab : a = b
  · subst hab
    clear hu
    go_enter Try.func17, Try.ntmps17
    go_wp2_with fail
    go_ret
    exact ⟨rfl, Ext.refl _⟩
  · have z0 : (a == b) = false := by simp [hab]
    have HU := Lib.hid hu
    have HV := Lib.hid hv
    have HBT := Lib.hid (bits_test p)
    have hsz := bitsS_size p
    obtain ⟨bs, HBS⟩ : ∃ x, Hid (bitsS p = x) := ⟨_, rfl⟩
    rw [HBS.out] at hsz
    rw [HBS.out]
    have HA0 : Hid (upKV p a (l.take 0) = a) := rfl
    have HB0 : Hid (upKV p b (l.take 0) = b) := rfl
    have HNE := Lib.hid hab
    clear hu hv hab
    go_enter Try.func17, Try.ntmps17
    go_wp2_with fail
    go_loopw [0, 1, 9, 10, 11, 12, 13] (fun x y k _ _ _ _ wr => ∃ (i : Nat) (s t : Int), k = .int .i64 i ∧ i ≤ 8 ∧ x = .int .i64 s ∧ y = .int .i64 t ∧ vld s = true ∧ vld t = true ∧ Ext w wr ∧ Hid (upKV p a (l.take i) = s) ∧ Hid (upKV p b (l.take i) = t) ∧ Hid (s ≠ t)) (fun _ _ k _ _ _ _ _ => 8 - (intOf k).toNat)
    case atStart => exact ⟨0, a, b, rfl, by omega, rfl, rfl, ha, hb, Ext.refl _, HA0, HB0, HNE⟩
    case round =>
      obtain ⟨i, s, t, rfl, hi, rfl, rfl, hvs, hvt, hbw, hs, ht, hne⟩ := hrel
      by_cases hc : i < 8
      · have hgj := List.getElem?_eq_getElem (l := l) (i := i) (by rw [HX.out]; exact hc)
        obtain ⟨ad, rfl, hb, hcell⟩ := (hr.ext hbw).getI hgj
        have hvx := allV_get HV.out hgj
        have hup := upKV_take hgj p a
        have hup' := upKV_take hgj p b
        generalize l[i]'(by rw [HX.out]; exact hc) = x at *
        rw [hs.out] at hup
        rw [ht.out] at hup'
        have k1 : IntKind.i64.wrap (7 - (i : Int)) = 7 - (i : Int) := IntWalk.i64_in _ (by omega)
        have k2 : (7 - (i : Int)).toNat = 7 - i := by omega
        have k3 : 0 ≤ 7 - (i : Int) := by omega
        have k4 : 7 - (i : Int) < 8 := by omega
        have k5 : 7 - i < 8 := by omega
        have kb := HBT.out bs HBS.out i hc
        go_wp2_with fail
        refine (NodeBytes_ok s x _ hvs hvx).mono ?_
        rintro _ w1 ⟨rfl, hb1⟩
        have hc1 := (hb1.cell (by rw [blk_add]; exact hb)).trans hcell
        go_wp2_with fail
        refine (NodeBytes_ok t x _ hvt hvx).mono ?_
        rintro _ w2 ⟨rfl, hb2⟩
        have hc2 := (hb2.cell (by rw [blk_add]; exact hb1.lt hb)).trans hc1
        clear hc1 hcell
        by_cases hbit : p / 2 ^ i % 2 = 1
        · have kb' : ∀ h : 7 - i < bs.size, (((bs[7 - i]).toNat : Int) == 49) = true := fun h => by rw [kb h]; simp [hbit]
          rw [if_neg (by omega)] at hup hup'
          clear kb
          go_wp2_with fail
          refine (NodeBytes_ok x s _ hvx hvs).mono ?_
          rintro _ w3 ⟨rfl, hb3⟩
          have hc3 := (hb3.cell (by rw [blk_add]; exact hb2.lt (hb1.lt hb))).trans hc2
          clear hc2
          go_wp2_with fail
          refine (NodeBytes_ok x t _ hvx hvt).mono ?_
          rintro _ w4 ⟨rfl, hb4⟩
          clear kb'
          go_wp2_with fail
          refine (Sum_any _ _ (nodeS_size x s)).mono ?_
          rintro _ w5 ⟨rfl, hb5⟩
          rw [sumL_nodeS]
          go_wp2_with fail
          refine (Sum_any _ _ (nodeS_size x t)).mono ?_
          rintro _ w6 ⟨rfl, hb6⟩
          rw [sumL_nodeS]
          by_cases hq : nodeL x s = nodeL x t
          · have e1 : (nodeL x s == nodeL x t) = true := by simp [hq]
            have e2 := nodeB_ne hvx hvs hvx hvt (a := x) (b := s) (c := x) (d := t) (fun h => hne.out h.2)
            go_wp2_with fail
            go_ret
            exact ⟨rfl, (((((hbw.trans hb1).trans hb2).trans hb3).trans hb4).trans hb5).trans hb6⟩
          · have e1 : (nodeL x s == nodeL x t) = false := by simp [hq]
            go_wp2_with fail
            go_roundw
            exact ⟨i + 1, nodeL x s, nodeL x t, rfl, by omega, rfl, rfl, vld_node _ _, vld_node _ _, (((((hbw.trans hb1).trans hb2).trans hb3).trans hb4).trans hb5).trans hb6, Lib.hid hup, Lib.hid hup', Lib.hid hq⟩
            show 8 - ((i : Int) + 1).toNat < 8 - ((i : Int)).toNat
            omega
        · have kb' : ∀ h : 7 - i < bs.size, (((bs[7 - i]).toNat : Int) == 49) = false := fun h => by rw [kb h]; simp [hbit]
          rw [if_pos (by omega)] at hup hup'
          clear kb
          have hb3 := Ext.refl w2
          have hb4 := Ext.refl w2
          go_wp2_with fail
          refine (Sum_any _ _ (nodeS_size s x)).mono ?_
          rintro _ w5 ⟨rfl, hb5⟩
          rw [sumL_nodeS]
          go_wp2_with fail
          refine (Sum_any _ _ (nodeS_size t x)).mono ?_
          rintro _ w6 ⟨rfl, hb6⟩
          rw [sumL_nodeS]
          by_cases hq : nodeL s x = nodeL t x
          · have e1 : (nodeL s x == nodeL t x) = true := by simp [hq]
            have e2 := nodeB_ne hvs hvx hvt hvx (a := s) (b := x) (c := t) (d := x) (fun h => hne.out h.1)
            go_wp2_with fail
            go_ret
            exact ⟨rfl, (((((hbw.trans hb1).trans hb2).trans hb3).trans hb4).trans hb5).trans hb6⟩
          · have e1 : (nodeL s x == nodeL t x) = false := by simp [hq]
            go_wp2_with fail
            go_roundw
            exact ⟨i + 1, nodeL s x, nodeL t x, rfl, by omega, rfl, rfl, vld_node _ _, vld_node _ _, (((((hbw.trans hb1).trans hb2).trans hb3).trans hb4).trans hb5).trans hb6, Lib.hid hup, Lib.hid hup', Lib.hid hq⟩
            show 8 - ((i : Int) + 1).toNat < 8 - ((i : Int)).toNat
            omega
      · obtain rfl : i = 8 := by omega
        exfalso
        refine hne.out ?_
        rw [← hs.out, ← ht.out, List.take_of_length_le (by rw [HX.out]; exact Nat.le_refl _)]
        exact HU.out
end Go.Proofs.Ytblojobgchkipaa
