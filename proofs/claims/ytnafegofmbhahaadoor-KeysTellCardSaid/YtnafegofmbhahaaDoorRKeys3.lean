/- the references' keys: the root that comes of a place's sum and those beside the way. -/
import Derived.Test.YtnafegofmbhahaaDoorRKeys2
namespace Go.Proofs.YtnafegofmbhahaaDoor
open Go.RowKit Go.WideShapes
set_option linter.unusedVariables false
attribute [local go_sem ↓] Go.wp_at_zero Go.wp_at_succ

set_option maxRecDepth 100000 in
set_option maxHeartbeats 1000000 in
theorem RKeyRoot_any (key : ByteArray) (s0 : Int) (A : Option Addr) (n c : Nat) (l : List Int) (w : World) (hr : Rd w 1 A n c (l.map (Value.int .i64))) (hm : c ≤ maxLen) (hsm : key.size ≤ maxLen) (hv0 : vld s0 = true) (hl : allV l = true) :
    Calls Tryd.prog 36 #[.string key, .int .i64 s0, .slice A n c] w fun e w' => e = .returned (.int .i64 (upKV (plcN key) s0 l)) ∧ Ext w w' := by
  have hx := hr.lenI
  have hlc := hr.2.1
  have hms : c ≤ 9223372036854775807 := by unfold maxLen at hm; omega
  have HX := Lib.hid hx
  have HVL := Lib.hid hl
  have hp := plcN_lt key
  have HSP := Lib.hid (RSpot_any key w hsm)
  obtain ⟨p, HP⟩ : ∃ p, Hid (plcN key = p) := ⟨_, rfl⟩
  obtain ⟨u, HU⟩ : ∃ s, Hid (upKV (plcN key) s0 l = s) := ⟨_, rfl⟩
  rw [HU.out]
  rw [HP.out] at hp HSP HU
  clear hx hl
  go_enter Tryd.func36, Tryd.ntmps36
  go_wp2_with fail
  refine HSP.out.mono ?_
  rintro _ _ ⟨rfl, rfl⟩
  clear HSP
  go_wp2_with fail
  go_loopw [1, 7, 8] (fun y m x wr => ∃ (i : Nat) (t : Int), x = .int .i64 i ∧ i ≤ n ∧ m = .int .i64 ((p / 2 ^ i : Nat) : Int) ∧ y = .int .i64 t ∧ vld t = true ∧ Ext w wr ∧ Hid (upKV p s0 (l.take i) = t)) (fun _ _ x _ => n - (intOf x).toNat)
  case atStart => exact ⟨0, s0, rfl, by omega, by simp, rfl, hv0, Ext.refl _, rfl⟩
  case round =>
    obtain ⟨i, t, rfl, hi, rfl, rfl, hvt, hbw, ht⟩ := hrel
    by_cases hc : i < n
    · have hgj := List.getElem?_eq_getElem (l := l) (i := i) (by rw [HX.out]; exact hc)
      obtain ⟨ad, rfl, hb, hcell⟩ := (hr.ext hbw).getI hgj
      have hvx := allV_get HVL.out hgj
      have hup := upKV_take hgj p s0
      generalize l[i]'(by rw [HX.out]; exact hc) = x at *
      rw [ht.out] at hup
      have HNX : Hid (p / 2 ^ i / 2 = p / 2 ^ (i + 1)) := by show _ = _; rw [Nat.div_div_eq_div_mul, Nat.pow_succ]
      have hqp : p / 2 ^ i ≤ p := Nat.div_le_self _ _
      obtain ⟨q, HQ⟩ : ∃ q, p / 2 ^ i = q := ⟨_, rfl⟩
      rw [HQ] at HNX hup hqp
      rw [HQ]
      have HN2 : Hid (((q / 2 : Nat) : Int) = (q : Int) / 2) := by show _ = _; omega
      have htm : Int.tmod (q : Int) 2 = (q : Int) % 2 := Int.tmod_eq_emod_of_nonneg (by omega)
      have htd : Int.tdiv (q : Int) 2 = (q : Int) / 2 := Int.tdiv_eq_ediv_of_nonneg (by omega)
      have hci : (i : Int) < (n : Int) := by omega
      clear hgj HQ
      by_cases hq : q % 2 = 0
      · rw [if_pos hq] at hup
        have HUP := Lib.hid hup
        have z1 : (q : Int) % 2 = 0 := by omega
        clear hup hq
        go_wp2_with fail
        refine (RNode_any t x _ hvt hvx).mono ?_
        rintro _ w3 ⟨rfl, hb3⟩
        go_wp2_with fail
        go_roundw
        case rel => exact ⟨i + 1, _, by go_num, by omega, by rw [← HNX.out, HN2.out], rfl, vld_mk (nodeL_bd _ _), hbw.trans hb3, HUP.out⟩
        case measure => simp [intOf]; omega
      · rw [if_neg hq] at hup
        have HUP := Lib.hid hup
        have z1 : (q : Int) % 2 = 1 := by omega
        clear hup hq
        go_wp2_with fail
        refine (RNode_any x t _ hvx hvt).mono ?_
        rintro _ w3 ⟨rfl, hb3⟩
        go_wp2_with fail
        go_roundw
        case rel => exact ⟨i + 1, _, by go_num, by omega, by rw [← HNX.out, HN2.out], rfl, vld_mk (nodeL_bd _ _), hbw.trans hb3, HUP.out⟩
        case measure => simp [intOf]; omega
    · obtain rfl : i = n := by omega
      have hu : t = u := by rw [← ht.out, List.take_of_length_le (by rw [HX.out]; exact Nat.le_refl _), HU.out]
      subst hu
      clear ht
      go_wp2_with fail
      go_ret
      exact ⟨rfl, hbw⟩
end Go.Proofs.YtnafegofmbhahaaDoor
