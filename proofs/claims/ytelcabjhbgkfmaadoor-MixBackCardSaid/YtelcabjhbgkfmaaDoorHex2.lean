/- Sums as text: mix.Text, mix.Print; the references' Text and Read. -/
import Derived.Test.YtelcabjhbgkfmaaDoorHex
import Derived.Test.YtelcabjhbgkfmaaDoorQVal
namespace Go.Proofs.YtelcabjhbgkfmaaDoor
open Go.RowKit Go.WideShapes
set_option linter.unusedVariables false
attribute [local go_sem ↓] Go.wp_at_zero Go.wp_at_succ

set_option maxRecDepth 100000 in
theorem FI16_any (n : Nat) (w : World) (hn : n < 9223372036854775808) (hd : DebG w) :
    Calls Tryd.prog 90 #[.int .i64 n, .int .i64 16] w fun e w' => e = .returned (.string (hexB n)) ∧ Ext w w' := by
  have HC := Lib.hid (FBits_any n w hn hd)
  have hin : Calls Tryd.prog 124 #[.int .i64 n, .int .i64 16] w fun e w' => e = .returned (.string (hexB n)) ∧ Ext w w' := by
    go_enter Tryd.func124, Tryd.ntmps124
    go_wp2_with fail
    refine HC.out.mono ?_
    rintro _ w1 ⟨rfl, hb1⟩
    go_wp2_with fail
    go_ret
    exact ⟨rfl, hb1⟩
  have HI := Lib.hid hin
  clear hin
  go_enter Tryd.func90, Tryd.ntmps90
  go_wp2_with fail
  refine HI.out.mono ?_
  rintro _ w1 ⟨rfl, hb1⟩
  go_wp2_with fail
  go_ret
  exact ⟨rfl, hb1⟩

def szS : Value → Nat
  | .string s => s.size
  | _ => 0
set_option maxRecDepth 100000 in
theorem MText_any (n : Nat) (w : World) (hn : n < 9223372036854775808) (hd : DebG w) :
    Calls Tryd.prog 49 #[.int .i64 n] w fun e w' => e = .returned (.string (padH n)) ∧ Ext w w' := by
  have HC := Lib.hid (FI16_any n w hn hd)
  have h1 := hexB_size hn
  have h2 := hexB_pos n
  have HP : Hid (padH n = zsB (8 - (hexB n).size) ++ hexB n) := rfl
  have H0 : Hid (zsB 0 ++ hexB n = hexB n) := by apply ba_ext; simp [zsB]
  rw [HP.out]
  obtain ⟨b, hb⟩ : ∃ b, hexB n = b := ⟨_, rfl⟩
  rw [hb] at HC h1 h2 H0
  rw [hb]
  clear hb HP
  go_enter Tryd.func49, Tryd.ntmps49
  go_wp2_with fail
  refine HC.out.mono ?_
  rintro _ w1 ⟨rfl, hb1⟩
  clear HC
  go_wp2_with fail
  go_loopw [3] (fun x wr => ∃ k : Nat, x = .string (zsB k ++ b) ∧ Hid (k = 0 ∨ k + b.size ≤ 8) ∧ Ext w wr) (fun x _ => 16 - szS x)
  case atStart => exact ⟨0, by rw [H0.out], .inl rfl, hb1⟩
  case round =>
    obtain ⟨k, rfl, hk, hbw⟩ := hrel
    have hsz : (zsB k ++ b).size = k + b.size := by rw [ByteArray.size_append, zsB_size]
    have HS : Hid (zsB (k + 1) ++ b = ⟨#[48]⟩ ++ (zsB k ++ b)) := by
      show _ = _
      rw [zsB_succ, ByteArray.append_assoc]
    have HK : Hid (¬ k + b.size < 8 → zsB k ++ b = zsB (8 - b.size) ++ b) := by
      intro h
      have : k = 8 - b.size := by rcases hk.out with h3 | h3 <;> omega
      rw [this]
    obtain ⟨t, ht⟩ : ∃ t, zsB k ++ b = t := ⟨_, rfl⟩
    rw [ht] at hsz HS HK ⊢
    have hk24 : k ≤ 8 := by rcases hk.out with h3 | h3 <;> omega
    have HSZ := Lib.hid hsz
    by_cases hc : k + b.size < 8
    · have hc1 : t.size < 8 := by omega
      have hc2 : (t.size : Int) < 8 := by omega
      clear ht hsz
      go_wp2_with fail
      go_roundw
      case rel => exact ⟨k + 1, by rw [HS.out], .inr (by omega), hbw⟩
      case measure =>
        show 16 - (⟨#[48]⟩ ++ t : ByteArray).size < 16 - t.size
        rw [ByteArray.size_append]
        show 16 - (1 + t.size) < _
        omega
    · have hc2 : ¬ (t.size : Int) < 8 := by omega
      have HF := Lib.hid (HK.out hc)
      clear ht hsz HK
      go_wp2_with fail
      go_ret
      exact ⟨ret_str HF.out, hbw⟩
/-- what Print tells -/
def prV (n : Int) : ByteArray := if vld n = true then hexT n.toNat else ⟨#[]⟩
def prK (n : Int) : Int := if vld n = true then 0 else 1
theorem MText_sum {n : Int} (h : vld n = true) (w : World) (hd : DebG w) :
    Calls Tryd.prog 49 #[.int .i64 n] w fun e w' => e = .returned (.string (hexT n.toNat)) ∧ Ext w w' := by
  obtain ⟨h1, h2⟩ := vld_true h
  obtain ⟨k, rfl⟩ := Int.eq_ofNat_of_zero_le h1
  have := MText_any k w (by omega) hd
  rw [padH_hexT (by omega)] at this
  exact this
set_option maxRecDepth 100000 in
theorem MPrint_any (n : Int) (w : World) (hd : DebG w) :
    Calls Tryd.prog 11 #[.int .i64 n] w fun e w' => e = .returned (.tuple #[.string (prV n), errR (prK n)]) ∧ Ext w w' := by
  have HV := Lib.hid (Valid_any n w)
  by_cases h : vld n = true
  · have HC := Lib.hid (MText_sum h w hd)
    have e1 : prV n = hexT n.toNat := if_pos h
    have e2 : prK n = 0 := if_pos h
    rw [e1, e2, errR_0]
    rw [h] at HV
    clear e1 e2
    go_enter Tryd.func11, Tryd.ntmps11
    go_wp2_with fail
    refine HV.out.mono ?_
    rintro _ _ ⟨rfl, rfl⟩
    go_wp2_with fail
    refine HC.out.mono ?_
    rintro _ w1 ⟨rfl, hb1⟩
    go_wp2_with fail
    go_ret2
    exact ⟨rfl, hb1⟩
  · have e1 : prV n = ⟨#[]⟩ := if_neg h
    have e2 : prK n = 1 := if_neg h
    have h' : vld n = false := by simpa using h
    rw [e1, e2]
    rw [h'] at HV
    clear e1 e2 h
    go_enter Tryd.func11, Tryd.ntmps11
    go_wp2_with fail
    refine HV.out.mono ?_
    rintro _ _ ⟨rfl, rfl⟩
    go_wp2_with fail
    go_ret2
    exact ⟨rfl, Ext.refl _⟩

/-! ### The references' -/
set_option maxRecDepth 100000 in
theorem RText_any (n : Nat) (w : World) (hn : n < 9223372036854775808) :
    Calls Tryd.prog 20 #[.int .i64 n] w fun e w' => e = .returned (.string (hexT n)) ∧ Ext w w' := by
  go_enter Tryd.func20, Tryd.ntmps20
  go_wp2_with fail
  go_loopw [0, 3, 4, 5] (fun a b x _ wr => ∃ j : Nat, a = .int .i64 ((n / 16 ^ j : Nat) : Int) ∧ b = .string (lowHex n j) ∧ x = .int .i64 j ∧ j ≤ 8 ∧ Ext w wr) (fun _ _ x _ _ => 8 - (intOf x).toNat)
  case atStart => exact ⟨0, by simp, rfl, rfl, Nat.zero_le _, Ext.refl _⟩
  case round =>
    obtain ⟨j, rfl, rfl, rfl, hj, hbw⟩ := hrel
    by_cases hc : j < 8
    · have hci : (j : Int) < 8 := by omega
      have HST : Hid (lowHex n (j + 1) = hexs.extract (n / 16 ^ j % 16) (n / 16 ^ j % 16 + 1) ++ lowHex n j) := rfl
      have HN : Hid (n / 16 ^ j / 16 = n / 16 ^ (j + 1)) := by show _ = _; rw [Nat.div_div_eq_div_mul, Nat.pow_succ]
      have hle : n / 16 ^ j ≤ n := Nat.div_le_self _ _
      have hsz := lowHex_size n j
      obtain ⟨q, hq⟩ : ∃ q, n / 16 ^ j = q := ⟨_, rfl⟩
      rw [hq] at HST HN hle ⊢
      obtain ⟨k, hk⟩ : ∃ k, q % 16 = k := ⟨_, rfl⟩
      have hk2 : k < 16 := by omega
      have hm1 : (q : Int).tmod 16 = (k : Int) := by rw [← hk]; rfl
      have HD : Hid (((q / 16 : Nat) : Int) = (q : Int) / 16) := by show _ = _; omega
      have htd : Int.tdiv (q : Int) 16 = (q : Int) / 16 := Int.tdiv_eq_ediv_of_nonneg (by omega)
      have htm : (q : Int) % 16 = (k : Int) := by omega
      have hqi : (q : Int) < 9223372036854775808 := by omega
      rw [hk] at HST
      obtain ⟨t, ht⟩ : ∃ t, lowHex n j = t := ⟨_, rfl⟩
      rw [ht] at hsz HST ⊢
      have h1 : (hexs.extract k (k + 1)).size = 1 := hx_size hk2
      have h2 : t.size ≤ 8 := by omega
      clear hq hk ht hsz
      go_wp2_with fail
      go_roundw
      case rel => exact ⟨j + 1, by rw [← HN.out, HD.out], by rw [HST.out]; rfl, by go_num, by omega, hbw⟩
      case measure => simp [intOf]; omega
    · obtain rfl : j = 8 := by omega
      have HT : Hid (lowHex n 8 = hexT n) := rfl
      rw [HT.out]
      go_wp2_with fail
      go_ret
      exact ⟨rfl, hbw⟩
end Go.Proofs.YtelcabjhbgkfmaaDoor
