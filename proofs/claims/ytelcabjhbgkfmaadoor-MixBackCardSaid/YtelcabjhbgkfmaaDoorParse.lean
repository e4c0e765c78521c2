/- strconv.ParseInt at base 16; mix.Parse. -/
import Derived.Test.YtelcabjhbgkfmaaDoorPUint
namespace Go.Proofs.YtelcabjhbgkfmaaDoor
open Go.RowKit Go.WideShapes
set_option linter.unusedVariables false
attribute [local go_sem ↓] Go.wp_at_zero Go.wp_at_succ

/-- how a number with a sign is read -/
def PIr (s : ByteArray) (e : Ending) : Prop :=
  ∃ (n : Int) (ev : Value), e = .returned (.tuple #[.int .i64 n, ev]) ∧ (ev = .nilIface ∨ ev = synE ∨ ev = rngE) ∧ (-9223372036854775808 ≤ n ∧ n ≤ 9223372036854775807) ∧ ∀ M, readH s = some M → ev = .nilIface ∧ n = M
theorem head_byte {s : ByteArray} (h : 0 < s.size) : s.data.toList[0]? = some (s.data[0]'h) := by
  rw [Array.getElem?_toList, Array.getElem?_eq_getElem]
theorem sign_none {s : ByteArray} (h : 0 < s.size) (hb : (s.data[0]'h).toNat = 43 ∨ (s.data[0]'h).toNat = 45) : readH s = none := opt_none fun M hM => by
  obtain ⟨d, h1, _⟩ := PUi.step (s := s) (j := 0) (n := 0) (fun M _ => rfl) (head_byte h) hM
  have h2 := hexD_no (b := s.data[0]'h) (by omega) (by omega)
  rw [h2] at h1
  cases h1

theorem neq_syn (W : World) : (binOp .neq 23 synE rngE).run Tryd.prog W = .ok (.bool true) W := by kernel_rfl
theorem neq_rng (W : World) : (binOp .neq 23 rngE rngE).run Tryd.prog W = .ok (.bool false) W := by kernel_rfl
theorem w64_bd (x : Int) : (-9223372036854775808 : Int) ≤ wrap64 x ∧ wrap64 x ≤ 9223372036854775807 := by
  unfold wrap64
  omega
theorem w64_in (M : Nat) (h : M < 4294967296) : wrap64 (M : Int) = M := by
  unfold wrap64
  omega
theorem un_bd (n : Nat) : Hid (¬ 9223372036854775808 ≤ n → (-9223372036854775808 : Int) ≤ (n : Int) ∧ (n : Int) ≤ 9223372036854775807) := Lib.hid fun h => by omega

set_option maxRecDepth 100000 in
set_option maxHeartbeats 4000000 in
theorem PInt_any (s : ByteArray) (w : World) (hs : s.size ≤ 140737488355328) :
    Calls Tryd.prog 91 #[.string s, .int .i64 16, .int .i64 64] w fun e w' => PIr s e ∧ Ext w w' := by
  by_cases h0 : s.size = 0
  · have hr : readH s = none := by unfold readH; rw [if_neg (by omega)]
    have HR := Lib.hid hr
    obtain rfl := str_noneQ h0
    clear hr h0
    go_enter Tryd.func91, Tryd.ntmps91
    go_wp2_with fail
    go_ret2
    exact ⟨⟨_, _, rfl, .inr (.inl rfl), by omega, fun M hM => by rw [HR.out] at hM; cases hM⟩, Ext.refl _⟩
  have hpos : 0 < s.size := Nat.pos_of_ne_zero h0
  obtain ⟨q1, q2⟩ := str_someQ hpos
  have hsl : (1 : Int) ≤ (s.size : Int) := by omega
  have hsx : s.size ≤ maxLen := by unfold maxLen; omega
  have HSG := Lib.hid fun hb => sign_none hpos hb
  have HP0 := Lib.hid (PUint_any s w hs)
  have HP1 := Lib.hid (PUint_any (s.extract 1 s.size) w (by rw [ByteArray.size_extract]; omega))
  obtain ⟨b, hb⟩ : ∃ b, s.data[0]'hpos = b := ⟨_, rfl⟩
  have hb2 : s[0]'hpos = b := hb
  rw [hb] at HSG
  have hb256 : b.toNat < 256 := b.toNat_lt
  have h3 : (b.toNat = 43) ∨ (¬ b.toNat = 43 ∧ b.toNat = 45) ∨ (¬ b.toNat = 43 ∧ ¬ b.toNat = 45) := by omega
  rcases h3 with p1 | ⟨p1, p2⟩ | ⟨p1, p2⟩
  · have hi1 : (b.toNat : Int) = 43 := by omega
    have HN := Lib.hid (HSG.out (.inl p1))
    clear p1 h0 hb HSG HP0
    go_enter Tryd.func91, Tryd.ntmps91
    go_wp2_with fail
    refine HP1.out.mono ?_
    rintro _ w1 ⟨⟨n, hn, rfl, hk⟩ | ⟨rfl, hk⟩ | ⟨rfl, hk⟩, hb1⟩
    · have HN0 := Lib.hid hn
      have HK := Lib.hid hk
      clear hn hk HP1
      by_cases hr : 9223372036854775808 ≤ n
      · have hr1 : (9223372036854775808 : Int) ≤ (n : Int) := by omega
        clear hr
        go_wp2_with fail
        go_ret2
        exact ⟨⟨_, _, rfl, .inr (.inr rfl), by omega, fun M hM => by rw [HN.out] at hM; cases hM⟩, hb1⟩
      · have hr1 : ((9223372036854775808 : Int) ≤ (n : Int)) = False := eq_false (by omega)
        clear hr
        go_upto_region 21 with (fail)
        clear hr1
        go_wp2_with fail
        go_ret2
        exact ⟨⟨_, _, rfl, .inl rfl, w64_bd _, fun M hM => by rw [HN.out] at hM; cases hM⟩, hb1⟩
    · clear HP1
      have hne := neq_syn
      go_wp2_with fail
      go_ret2
      exact ⟨⟨_, _, rfl, .inr (.inl rfl), by omega, fun M hM => by rw [HN.out] at hM; cases hM⟩, hb1⟩
    · clear HP1
      have hne := neq_rng
      go_wp2_with fail
      go_ret2
      exact ⟨⟨_, _, rfl, .inr (.inr rfl), by omega, fun M hM => by rw [HN.out] at hM; cases hM⟩, hb1⟩
  · have hi1 : (b.toNat : Int) = 45 := by omega
    have HN := Lib.hid (HSG.out (.inr p2))
    clear p1 p2 h0 hb HSG HP0
    go_enter Tryd.func91, Tryd.ntmps91
    go_wp2_with fail
    refine HP1.out.mono ?_
    rintro _ w1 ⟨⟨n, hn, rfl, hk⟩ | ⟨rfl, hk⟩ | ⟨rfl, hk⟩, hb1⟩
    · have HN0 := Lib.hid hn
      have HK := Lib.hid hk
      clear hn hk HP1
      by_cases hr : 9223372036854775808 < n
      · have hr1 : (9223372036854775808 : Int) < (n : Int) := by omega
        clear hr
        go_wp2_with fail
        go_ret2
        exact ⟨⟨_, _, rfl, .inr (.inr rfl), w64_bd _, fun M hM => by rw [HN.out] at hM; cases hM⟩, hb1⟩
      · have hr1 : ¬ (9223372036854775808 : Int) < (n : Int) := by omega
        clear hr
        go_upto_region 21 with (fail)
        clear hr1
        go_wp2_with fail
        go_ret2
        exact ⟨⟨_, _, rfl, .inl rfl, w64_bd _, fun M hM => by rw [HN.out] at hM; cases hM⟩, hb1⟩
    · clear HP1
      have hne := neq_syn
      go_wp2_with fail
      go_ret2
      exact ⟨⟨_, _, rfl, .inr (.inl rfl), by omega, fun M hM => by rw [HN.out] at hM; cases hM⟩, hb1⟩
    · clear HP1
      have hne := neq_rng
      go_wp2_with fail
      go_ret2
      exact ⟨⟨_, _, rfl, .inr (.inr rfl), w64_bd _, fun M hM => by rw [HN.out] at hM; cases hM⟩, hb1⟩
  · have hi1 : ¬ (b.toNat : Int) = 43 := by omega
    have hi2 : ¬ (b.toNat : Int) = 45 := by omega
    clear p1 p2 h0 hb HSG HP1
    go_enter Tryd.func91, Tryd.ntmps91
    go_wp2_with fail
    refine HP0.out.mono ?_
    rintro _ w1 ⟨⟨n, hn, rfl, hk⟩ | ⟨rfl, hk⟩ | ⟨rfl, hk⟩, hb1⟩
    · have HN0 := Lib.hid hn
      have HK := Lib.hid hk
      clear hn hk HP0
      by_cases hr : 9223372036854775808 ≤ n
      · have hr1 : (9223372036854775808 : Int) ≤ (n : Int) := by omega
        have HNO : Hid (readH s = none) := Lib.hid (opt_none fun M hM => by have h1 := HK.out M hM; have h2 := (readH_text hM).2.2.1; omega)
        clear hr
        go_wp2_with fail
        go_ret2
        exact ⟨⟨_, _, rfl, .inr (.inr rfl), by omega, fun M hM => by rw [HNO.out] at hM; cases hM⟩, hb1⟩
      · have hr1 : ((9223372036854775808 : Int) ≤ (n : Int)) = False := eq_false (by omega)
        clear hr
        go_upto_region 21 with (fail)
        clear hr1
        go_wp2_with fail
        go_ret2
        exact ⟨⟨_, _, rfl, .inl rfl, w64_bd _, fun M hM => ⟨rfl, by rw [HK.out M hM]; exact w64_in M (readH_text hM).2.2.1⟩⟩, hb1⟩
    · clear HP0
      have HNO := Lib.hid hk
      have hne := neq_syn
      go_wp2_with fail
      go_ret2
      exact ⟨⟨_, _, rfl, .inr (.inl rfl), by omega, fun M hM => by rw [HNO.out] at hM; cases hM⟩, hb1⟩
    · clear HP0
      have HNO := Lib.hid hk
      have hne := neq_rng
      go_wp2_with fail
      go_ret2
      exact ⟨⟨_, _, rfl, .inr (.inr rfl), by omega, fun M hM => by rw [HNO.out] at hM; cases hM⟩, hb1⟩
end Go.Proofs.YtelcabjhbgkfmaaDoor
