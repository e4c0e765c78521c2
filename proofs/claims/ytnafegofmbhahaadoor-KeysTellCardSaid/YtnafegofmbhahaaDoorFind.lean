/- store.Find: a binary search. -/
import Derived.Test.YtnafegofmbhahaaDoorOrd
import Derived.Deep.DeepCutAuto
import Derived.Deep.CutRange
namespace Go.Proofs.YtnafegofmbhahaaDoor
open Go.RowKit
set_option linter.unusedVariables false
attribute [local go_sem ↓] Go.wp_at_zero Go.wp_at_succ

def cmpI (p : Pr) (key : ByteArray) : Int := if kLt p.key key = true then -1 else if p.key = key then 0 else 1
theorem cmpI_any (p : Pr) (key : ByteArray) (w : World) :
    Calls Tryd.prog 98 #[p.val, .string key] w fun e w' => e = .returned (.int .i64 (cmpI p key)) ∧ Ext w w' := by
  have HC : Hid (Lib.compareBytes p.key.data.toList key.data.toList = cmpI p key) := kCmp p.key key
  obtain ⟨pk, pv, pg⟩ := p
  have B := Bk.at_ w 25 #[.string pk, .string pv, .bool pg] w.heap.size rfl
  have c0 := B.cell 0
  have e0 : Ext w (w.alloc (.cells #[.string pk, .string pv, .bool pg] 25)) := (Ext.refl _).alloc _
  simp only [List.getElem?_toArray] at c0
  go_enter Tryd.func98, Tryd.ntmps98
  go_wp2_with fail
  generalize w.alloc (.cells #[.string pk, .string pv, .bool pg] 25) = W1 at *
  refine (Tryd.strings_Compare pk key _).mono ?_
  rw [HC.out]
  rintro _ w1 ⟨rfl, rfl⟩
  go_wp2_with fail
  go_ret
  exact ⟨rfl, e0⟩

set_option maxRecDepth 100000 in
set_option maxHeartbeats 1000000 in
theorem BSearch_any (K : Nat) (hK : ∀ (p : Pr) (key : ByteArray) (w : World), Calls Tryd.prog K #[p.val, .string key] w fun e w' => e = .returned (.int .i64 (cmpI p key)) ∧ Ext w w') (hrun : ∀ (v u : Value) (w : World), (callFunc K #[v, u]).run Tryd.prog w = .ok (.enter K #[v, u]) w)
    (A : Option Addr) (n c : Nat) (es : List Pr) (key : ByteArray) (w : World) (hr : Rd w 3 A n c (es.flatMap Pr.cells)) (hm : c ≤ maxLen) (hn : n ≤ 1099511627776) (ho : Asc es) :
    Calls Tryd.prog 97 #[.slice A n c, .string key, .func (.func K) #[] #[]] w fun e w' => e = .returned (.tuple #[.int .i64 (lowN es key : Nat), .bool (hasB es key)]) ∧ Ext w w' := by
  have hl : n ≤ c := hr.2.1
  have hx := hr.lenP
  have HX := Lib.hid hx
  have HK := Lib.hid hK
  have HO := Lib.hid ho
  have HLE := Lib.hid (lowN_le es key)
  have HS := Lib.hid (low_side ho key)
  obtain ⟨lo, HLO⟩ : ∃ x, Hid (lowN es key = x) := ⟨_, rfl⟩
  obtain ⟨hb, HHB⟩ : ∃ x, Hid (hasB es key = x) := ⟨_, rfl⟩
  rw [HLO.out] at HLE HS
  rw [HLO.out, HHB.out]
  have hlo : lo ≤ n := by rw [← hx]; exact HLE.out
  clear hK ho hx
  unfold maxLen at hm
  go_enter Tryd.func97, Tryd.ntmps97
  go_wp2_with fail
  go_loopw [9, 10, 11] (fun x y _ wr => ∃ i j : Nat, x = .int .i64 i ∧ y = .int .i64 j ∧ i ≤ lo ∧ lo ≤ j ∧ j ≤ n ∧ Ext w wr) (fun x y _ _ => (intOf y).toNat - (intOf x).toNat)
  case atStart => exact ⟨0, n, rfl, rfl, by omega, hlo, by omega, Ext.refl _⟩
  case round =>
    obtain ⟨i, j, rfl, rfl, hi, hj, hjn, hbw⟩ := hrel
    by_cases hlt : i < j
    · have hmn : (i + j) / 2 < n := by omega
      have k1 : ((i : Int) + (j : Int)) / 2 = (((i + j) / 2 : Nat) : Int) := by omega
      obtain ⟨md, hmd⟩ : ∃ m, (i + j) / 2 = m := ⟨_, rfl⟩
      have hi2 : i ≤ md := by omega
      have hj2 : md < j := by omega
      rw [hmd] at k1 hmn
      clear hmd
      have hgj := List.getElem?_eq_getElem (l := es) (i := md) (by rw [HX.out]; exact hmn)
      obtain ⟨ad, rfl, hb, y0, y1, y2⟩ := (hr.ext hbw).getP hgj
      have hside : (md < lo → kLt (es[md]'(by rw [HX.out]; exact hmn)).key key = true) ∧ (lo ≤ md → kLt (es[md]'(by rw [HX.out]; exact hmn)).key key = false) := ⟨fun h => HS.out.1 md _ h hgj, fun h => HS.out.2 md _ h hgj⟩
      generalize es[md]'(by rw [HX.out]; exact hmn) = p at *
      have HP := Lib.hid hside
      obtain ⟨cm, HCM⟩ : ∃ x, Hid (cmpI p key = x) := ⟨_, rfl⟩
      have hc := HK.out p key
      rw [HCM.out] at hc
      have HCC := Lib.hid hc
      obtain ⟨pk, pv, pg⟩ := p
      simp only at y0 y1 y2
      clear hc hside hgj
      go_wp2_with fail
      refine (HCC.out _).mono ?_
      rintro _ w1 ⟨rfl, hb1⟩
      by_cases hml : md < lo
      · have h1 := HP.out.1 hml
        have hcm : cm < 0 := by rw [← HCM.out]; unfold cmpI; rw [if_pos h1]; decide
        clear h1
        go_wp2_with fail
        go_roundw
        case rel => exact ⟨md + 1, j, by go_num, rfl, by omega, hj, hjn, hbw.trans hb1⟩
        case measure => simp [intOf]; omega
      · have h1 := HP.out.2 (by omega)
        have hcm : ¬ cm < 0 := by rw [← HCM.out]; unfold cmpI; rw [if_neg (by rw [h1]; decide)]; split <;> decide
        clear h1
        go_wp2_with fail
        go_roundw
        case rel => exact ⟨i, md, rfl, rfl, hi, by omega, by omega, hbw.trans hb1⟩
        case measure => simp [intOf]; omega
    · obtain rfl : i = j := by omega
      obtain rfl : i = lo := by omega
      clear hi hj hlt
      by_cases hin : i < n
      · have hgj := List.getElem?_eq_getElem (l := es) (i := i) (by rw [HX.out]; exact hin)
        obtain ⟨ad, rfl, hb', y0, y1, y2⟩ := (hr.ext hbw).getP hgj
        have hfin : hasB es key = decide ((es[i]'(by rw [HX.out]; exact hin)).key = key) := by unfold hasB; rw [HLO.out, hgj]
        have hside := HS.out.2 i _ (Nat.le_refl _) hgj
        generalize es[i]'(by rw [HX.out]; exact hin) = p at *
        have HF := Lib.hid hfin
        obtain ⟨cm, HCM⟩ : ∃ x, Hid (cmpI p key = x) := ⟨_, rfl⟩
        have hc := HK.out p key
        rw [HCM.out] at hc
        have HCC := Lib.hid hc
        have HSD := Lib.hid hside
        obtain ⟨pk, pv, pg⟩ := p
        simp only at y0 y1 y2
        clear hc hside hgj hfin
        go_wp2_with fail
        refine (HCC.out _).mono ?_
        rintro _ w1 ⟨rfl, hb1⟩
        have hz : (cm == 0) = hb := by
          rw [← HHB.out, HF.out, ← HCM.out]
          unfold cmpI
          rw [if_neg (by rw [HSD.out]; decide)]
          show _ = decide (pk = key)
          by_cases h : pk = key
          · rw [if_pos h]; simp [h]
          · rw [if_neg h]; simp [h]
        go_wp2_with fail
        refine bodyPost_ret (by simp [results, Tryd.results97, go_sem]; try rfl) rfl ?_
        exact ⟨rfl, hbw.trans hb1⟩
      · have hfin : hb = false := by
          rw [← HHB.out]
          unfold hasB
          rw [HLO.out, List.getElem?_eq_none (by rw [HX.out]; omega)]
        subst hfin
        go_wp2_with fail
        refine bodyPost_ret (by simp [results, Tryd.results97, go_sem]; try rfl) rfl ?_
        exact ⟨rfl, hbw⟩

theorem Find_any (A : Option Addr) (n c : Nat) (es : List Pr) (key : ByteArray) (w : World) (hr : Rd w 3 A n c (es.flatMap Pr.cells)) (hm : c ≤ maxLen) (hn : n ≤ 1099511627776) (ho : Asc es) :
    Calls Tryd.prog 71 #[.slice A n c, .string key] w fun e w' => e = .returned (.tuple #[.int .i64 (lowN es key : Nat), .bool (hasB es key)]) ∧ Ext w w' := by
  have HO := Lib.hid ho
  clear ho
  go_enter Tryd.func71, Tryd.ntmps71
  go_wp2_with fail
  refine (BSearch_any 98 cmpI_any (fun v u w => by kernel_rfl) A n c es key _ hr hm hn HO.out).mono ?_
  rintro _ w1 ⟨rfl, hb1⟩
  go_wp2_with fail
  refine bodyPost_ret (by simp [results, Tryd.results71, go_sem]; try rfl) rfl ?_
  exact ⟨rfl, hb1⟩
end Go.Proofs.YtnafegofmbhahaaDoor
