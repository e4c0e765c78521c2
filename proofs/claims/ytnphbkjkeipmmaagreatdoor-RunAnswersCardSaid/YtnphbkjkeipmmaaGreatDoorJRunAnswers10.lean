/- the references' Key, Spot, Bits. -/
import Derived.Test.YtnphbkjkeipmmaaGreatDoorJRunBegins19
import Derived.Test.YtnphbkjkeipmmaaGreatDoorJRunBegins8
namespace Go.Proofs.YtnphbkjkeipmmaaGreatDoor
open Go.RowKit Go.WideShapes
set_option linter.unusedVariables false
attribute [local go_sem ↓] Go.wp_at_zero Go.wp_at_succ

theorem RSKey_any (key : ByteArray) (w : World) : Calls Tryz.prog 25 #[.string key] w fun e w' => e = .returned (.int .i64 (keyK key)) ∧ w = w' := by
  by_cases h0 : key.size = 0
  · rw [keyK_none h0]
    obtain rfl := str_noneP h0
    clear h0
    go_enter Tryz.func25, Tryz.ntmps25
    go_wp2_with fail
    go_ret
    exact ⟨rfl, rfl⟩
  · obtain ⟨q1, q2⟩ := str_someP (Nat.pos_of_ne_zero h0)
    by_cases h2 : 200 < key.size
    · rw [keyK_long h2]
      have hi : (200 : Int) < (key.size : Int) := by omega
      clear h0 h2
      go_enter Tryz.func25, Tryz.ntmps25
      go_wp2_with fail
      go_ret
      exact ⟨rfl, rfl⟩
    · rw [keyK_ok (Nat.pos_of_ne_zero h0) (Nat.le_of_not_lt h2)]
      have hi : ¬ (200 : Int) < (key.size : Int) := by omega
      clear h0 h2
      go_enter Tryz.func25, Tryz.ntmps25
      go_wp2_with fail
      go_ret
      exact ⟨rfl, rfl⟩

set_option maxRecDepth 100000 in
theorem RSpot_any (s : ByteArray) (w : World) (hs : s.size ≤ maxLen) :
    Calls Tryz.prog 45 #[.string s] w fun e w' => e = .returned (.int .i64 (plcN s : Nat)) ∧ w = w' := by
  have HP := Lib.hid (plcN_eq s)
  have hb := sumL_bd s.data.toList
  obtain ⟨x, hx⟩ : ∃ x, sumL s.data.toList = x := ⟨_, rfl⟩
  rw [hx] at hb HP
  have hm : x.tmod 256 = x % 256 := Int.tmod_eq_emod_of_nonneg hb.1
  go_enter Tryz.func45, Tryz.ntmps45
  go_wp2_with fail
  refine (RSum_any s _ hs).mono ?_
  rw [hx]
  rintro _ _ ⟨rfl, rfl⟩
  go_wp2_with fail
  go_ret
  exact ⟨ret_int HP.out, rfl⟩

/-- the last so many bits -/
def lowBits (p k : Nat) : ByteArray := ⟨((bitsL p).drop (8 - k)).toArray⟩
theorem lowBits_step : ∀ p, p < 256 → ∀ k, k < 8 → lowBits p (k + 1) = (ByteArray.mk #[48, 49]).extract (p / 2 ^ k % 2) (p / 2 ^ k % 2 + 1) ++ lowBits p k := by decide +kernel
theorem lowBits_all (p : Nat) : lowBits p 8 = bitsS p := rfl
set_option maxRecDepth 100000 in
theorem RBits_any (s : ByteArray) (w : World) (hs : s.size ≤ maxLen) :
    Calls Tryz.prog 26 #[.string s] w fun e w' => e = .returned (.string (bitsS (plcN s))) ∧ Ext w w' := by
  have hp := plcN_lt s
  have HSP := Lib.hid (RSpot_any s w hs)
  obtain ⟨p, HP⟩ : ∃ p, Hid (plcN s = p) := ⟨_, rfl⟩
  rw [HP.out] at hp HSP ⊢
  have H0 : Hid (lowBits p 0 = ⟨#[]⟩) := by
    show _ = _
    unfold lowBits
    rw [List.drop_of_length_le (by simp [bitsL])]
  go_enter Tryz.func26, Tryz.ntmps26
  go_wp2_with fail
  refine HSP.out.mono ?_
  rintro _ _ ⟨rfl, rfl⟩
  go_wp2_with fail
  go_loopw [3, 4, 5, 6] (fun a b x _ wr => ∃ j : Nat, a = .int .i64 ((p / 2 ^ j : Nat) : Int) ∧ b = .string (lowBits p j) ∧ x = .int .i64 j ∧ j ≤ 8 ∧ Ext w wr) (fun _ _ x _ _ => 8 - (intOf x).toNat)
  case atStart => exact ⟨0, by simp, by rw [H0.out], rfl, Nat.zero_le _, Ext.refl _⟩
  case round =>
    obtain ⟨j, rfl, rfl, rfl, hj, hbw⟩ := hrel
    by_cases hc : j < 8
    · have hci : (j : Int) < 8 := by omega
      have hst := lowBits_step p hp j hc
      have hn2 : p / 2 ^ j / 2 = p / 2 ^ (j + 1) := by rw [Nat.pow_succ, Nat.div_div_eq_div_mul]
      have hle : p / 2 ^ j ≤ p := Nat.div_le_self _ _
      obtain ⟨q, hq⟩ : ∃ q, p / 2 ^ j = q := ⟨_, rfl⟩
      rw [hq] at hst hn2 hle ⊢
      obtain ⟨k, hk⟩ : ∃ k, q % 2 = k := ⟨_, rfl⟩
      have hk2 : k < 2 := by omega
      have hm1 : (q : Int).tmod 2 = (k : Int) := by rw [← hk]; rfl
      obtain ⟨q2, hq2⟩ : ∃ q2, p / 2 ^ (j + 1) = q2 := ⟨_, rfl⟩
      rw [hq2] at hn2
      have HQ2 := Lib.hid hq2
      have hq2l : (q2 : Int) ≤ 255 := by omega
      have hd1 : (q : Int).tdiv 2 = (q2 : Int) := by rw [← hn2]; rfl
      rw [hk] at hst
      have HST := Lib.hid hst
      have hkI : (k : Int) ≤ 1 := by omega
      have hs1 : ((ByteArray.mk #[48, 49]).extract k (k + 1)).size ≤ 2 := by rw [ByteArray.size_extract]; omega
      have hs2 : (lowBits p j).size ≤ 8 := by
        show ((bitsL p).drop (8 - j)).toArray.size ≤ 8
        rw [List.size_toArray, List.length_drop]
        have : (bitsL p).length = 8 := rfl
        omega
      obtain ⟨x1, hx1⟩ : ∃ x, (ByteArray.mk #[48, 49]).extract k (k + 1) = x := ⟨_, rfl⟩
      obtain ⟨x2, hx2⟩ : ∃ x, lowBits p j = x := ⟨_, rfl⟩
      rw [hx1] at hs1
      rw [hx1, hx2] at HST
      rw [hx2] at hs2 ⊢
      have HX2 := Lib.hid hx2
      clear hx2
      clear hst hn2 hq hq2
      go_wp2_with fail
      go_roundw
      case rel => exact ⟨j + 1, by rw [HQ2.out], by rw [HST.out], by go_num, by omega, by (repeat (with_reducible first | exact Ext.refl _ | assumption | refine Ext.drew ?_ | refine Ext.drewN ?_ _ | refine Ext.alloc ?_ _ | refine Ext.trans ?_ (by with_reducible assumption)))⟩
      case measure => simp [intOf]; omega
    · obtain rfl : j = 8 := by omega
      go_wp2_with fail
      go_ret
      exact ⟨rfl, hbw⟩
end Go.Proofs.YtnphbkjkeipmmaaGreatDoor
