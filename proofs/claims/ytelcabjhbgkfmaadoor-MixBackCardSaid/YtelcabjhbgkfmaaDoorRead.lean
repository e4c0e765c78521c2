/- The references' Read. -/
import Derived.Test.YtelcabjhbgkfmaaDoorHex2
namespace Go.Proofs.YtelcabjhbgkfmaaDoor
open Go.RowKit Go.WideShapes
set_option linter.unusedVariables false
attribute [local go_sem ↓] Go.wp_at_zero Go.wp_at_succ

theorem hexGo_cat : ∀ (a b : List UInt8) (acc : Nat), hexGo acc (a ++ b) = (hexGo acc a).bind fun n => hexGo n b
  | [], b, acc => rfl
  | c :: a, b, acc => by
    show (hexD c).bind (fun d => hexGo (acc * 16 + d) (a ++ b)) = ((hexD c).bind fun d => hexGo (acc * 16 + d) a).bind _
    cases hexD c with
    | none => rfl
    | some d => exact hexGo_cat a b _
theorem hexGo_at {l : List UInt8} {j m : Nat} {b : UInt8} (h : l[j]? = some b) (hm : hexGo 0 (l.take j) = some m) :
    (hexD b = none → hexGo 0 l = none) ∧ ∀ d, hexD b = some d → hexGo 0 (l.take (j + 1)) = some (m * 16 + d) := by
  obtain ⟨h1, h2⟩ := List.getElem?_eq_some_iff.1 h
  refine ⟨fun hn => ?_, fun d hd => ?_⟩
  · conv => lhs; rw [← List.take_append_drop j l, hexGo_cat, hm, List.drop_eq_getElem_cons h1, h2]
    show (hexD b).bind _ = none
    rw [hn]; rfl
  · rw [List.take_succ_eq_append_getElem h1, h2, hexGo_snoc, hm, hd]; rfl
theorem hexD_num {b : UInt8} (h : 48 ≤ b.toNat ∧ b.toNat ≤ 57) : hexD b = some (b.toNat - 48) := if_pos h
theorem hexD_let {b : UInt8} (h : 97 ≤ b.toNat ∧ b.toNat ≤ 102) : hexD b = some (b.toNat - 87) := by unfold hexD; rw [if_neg (by omega), if_pos h]
theorem hexD_no {b : UInt8} (h : ¬ (48 ≤ b.toNat ∧ b.toNat ≤ 57)) (h2 : ¬ (97 ≤ b.toNat ∧ b.toNat ≤ 102)) : hexD b = none := by unfold hexD; rw [if_neg h, if_neg h2]
theorem hexGo_lt {l : List UInt8} {j m : Nat} (hl : l.length = 8) (hj : j ≤ 8) (hm : hexGo 0 (l.take j) = some m) : m < 4294967296 := by
  have h1 := (hexGo_text j (l.take j) m (by rw [List.length_take]; omega) hm).1
  exact Nat.lt_of_lt_of_le h1 (Nat.le_trans (Nat.pow_le_pow_right (by decide) hj) (by decide))
theorem read_none {s : ByteArray} (h : readH s = none) : readV s = 0 ∧ readK s = 2 := by unfold readV readK; rw [h]; exact ⟨rfl, rfl⟩
theorem read_some {s : ByteArray} {n : Nat} (h : readH s = some n) : readV s = (if n < 2147483647 then (n : Int) else 0) ∧ readK s = if n < 2147483647 then 0 else 1 := by unfold readV readK; rw [h]; exact ⟨rfl, rfl⟩

set_option maxRecDepth 100000 in
set_option maxHeartbeats 1000000 in
theorem RRead_any (s : ByteArray) (w : World) :
    Calls Tryd.prog 21 #[.string s] w fun e w' => e = .returned (.tuple #[.int .i64 (readV s), .int .i64 (readK s)]) ∧ Ext w w' := by
  by_cases h8 : s.size = 8
  · have hl : s.data.toList.length = 8 := h8
    have HL := Lib.hid hl
    have HS := Lib.hid h8
    have HRN : Hid (hexGo 0 s.data.toList = none → readV s = 0 ∧ readK s = 2) := Lib.hid fun h => read_none (by unfold readH; rw [if_pos h8]; exact h)
    have HRS : Hid (∀ n, hexGo 0 s.data.toList = some n → readV s = (if n < 2147483647 then (n : Int) else 0) ∧ readK s = if n < 2147483647 then 0 else 1) := Lib.hid fun n h => read_some (by unfold readH; rw [if_pos h8]; exact h)
    obtain ⟨rv, hrv⟩ : ∃ k, readV s = k := ⟨_, rfl⟩
    obtain ⟨rk, hrk⟩ : ∃ k, readK s = k := ⟨_, rfl⟩
    rw [hrv, hrk] at HRN HRS
    rw [hrv, hrk]
    have h8i : (s.size : Int) = 8 := by omega
    clear hrv hrk hl h8
    go_enter Tryd.func21, Tryd.ntmps21
    go_wp2_with fail
    go_loopw [4, 5, 6] (fun a x _ wr => ∃ j m : Nat, a = .int .i64 (m : Nat) ∧ x = .int .i64 (j : Nat) ∧ j ≤ 8 ∧ m < 4294967296 ∧ Ext w wr ∧ Hid (hexGo 0 (s.data.toList.take j) = some m)) (fun _ x _ _ => 8 - (intOf x).toNat)
    case atStart => exact ⟨0, 0, rfl, rfl, by omega, by omega, Ext.refl _, rfl⟩
    case round =>
      obtain ⟨j, m, rfl, rfl, hj, hm, hbw, hgo⟩ := hrel
      by_cases hc : j < 8
      · have hci : (j : Int) < 8 := by omega
        have hjs : j < s.size := by rw [HS.out]; exact hc
        have hg : s.data.toList[j]? = some s[j] := by
          rw [List.getElem?_eq_getElem (by rw [HL.out]; exact hc)]; rfl
        have HA := Lib.hid (hexGo_at hg hgo.out)
        have HLT := Lib.hid fun m' h => hexGo_lt (j := j + 1) (m := m') HL.out (by omega) h
        obtain ⟨b, hb⟩ : ∃ b, s[j] = b := ⟨_, rfl⟩
        rw [hb] at HA
        have hb256 := b.toNat_lt
        clear hg
        by_cases q1 : 48 ≤ b.toNat ∧ b.toNat ≤ 57
        · have H1 := Lib.hid (HA.out.2 _ (hexD_num q1))
          have hlt := HLT.out _ H1.out
          obtain ⟨q2, q3⟩ := q1
          have q4 : (48 : Int) ≤ (b.toNat : Int) := by omega
          have q5 : (b.toNat : Int) ≤ 57 := by omega
          have e1 : (m : Int) * 16 + (b.toNat : Int) - 48 = ((m * 16 + (b.toNat - 48) : Nat) : Int) := by omega
          have E1 := Lib.hid e1
          clear e1 HA HLT
          go_wp2_with fail
          go_roundw
          case rel => exact ⟨j + 1, _, by rw [E1.out], by go_num, by omega, hlt, hbw, H1.out⟩
          case measure => simp [intOf]; omega
        · by_cases q6 : 97 ≤ b.toNat ∧ b.toNat ≤ 102
          · have H1 := Lib.hid (HA.out.2 _ (hexD_let q6))
            have hlt := HLT.out _ H1.out
            obtain ⟨q2, q3⟩ := q6
            have q4 : (97 : Int) ≤ (b.toNat : Int) := by omega
            have q5 : (b.toNat : Int) ≤ 102 := by omega
            have q7 : (48 : Int) ≤ (b.toNat : Int) := by omega
            have q8 : ¬ (b.toNat : Int) ≤ 57 := by omega
            have E1 : Hid ((m : Int) * 16 + (b.toNat : Int) - 87 = ((m * 16 + (b.toNat - 87) : Nat) : Int)) := by show _ = _; omega
            clear HA HLT q1
            go_wp2_with fail
            go_roundw
            case rel => exact ⟨j + 1, _, by rw [E1.out], by go_num, by omega, hlt, hbw, H1.out⟩
            case measure => simp [intOf]; omega
          · obtain ⟨rfl, rfl⟩ := HRN.out (HA.out.1 (hexD_no q1 q6))
            have h3 : (¬ 48 ≤ b.toNat) ∨ (48 ≤ b.toNat ∧ ¬ b.toNat ≤ 57 ∧ ¬ 97 ≤ b.toNat) ∨ (48 ≤ b.toNat ∧ ¬ b.toNat ≤ 57 ∧ 97 ≤ b.toNat ∧ ¬ b.toNat ≤ 102) := by omega
            clear HA HLT q1 q6 HRN HRS
            rcases h3 with q2 | ⟨q2, q3, q4⟩ | ⟨q2, q3, q4, q5⟩
            · have p2 : ¬ (48 : Int) ≤ (b.toNat : Int) := by omega
              have p4 : ¬ (97 : Int) ≤ (b.toNat : Int) := by omega
              go_wp2_with fail
              go_ret2
              exact ⟨rfl, hbw⟩
            · have p2 : (48 : Int) ≤ (b.toNat : Int) := by omega
              have p3 : ¬ (b.toNat : Int) ≤ 57 := by omega
              have p4 : ¬ (97 : Int) ≤ (b.toNat : Int) := by omega
              go_wp2_with fail
              go_ret2
              exact ⟨rfl, hbw⟩
            · have p2 : (48 : Int) ≤ (b.toNat : Int) := by omega
              have p3 : ¬ (b.toNat : Int) ≤ 57 := by omega
              have p4 : (97 : Int) ≤ (b.toNat : Int) := by omega
              have p5 : ¬ (b.toNat : Int) ≤ 102 := by omega
              go_wp2_with fail
              go_ret2
              exact ⟨rfl, hbw⟩
      · obtain rfl : j = 8 := by omega
        have hg := hgo.out
        rw [List.take_of_length_le (by rw [HL.out]; exact Nat.le_refl _)] at hg
        obtain ⟨e1, e2⟩ := HRS.out m hg
        have HV := Lib.hid (RValid_any (m : Int) wr)
        by_cases hv : m < 2147483647
        · rw [if_pos hv] at e1 e2
          have hvv : vld (m : Int) = true := by simp [vld]; omega
          rw [hvv] at HV
          subst e1 e2
          clear hg hgo HRS HRN hvv
          go_wp2_with fail
          refine HV.out.mono ?_
          rintro _ _ ⟨rfl, rfl⟩
          go_wp2_with fail
          go_ret2
          exact ⟨rfl, hbw⟩
        · rw [if_neg hv] at e1 e2
          have hvv : vld (m : Int) = false := by simp [vld]; omega
          rw [hvv] at HV
          subst e1 e2
          clear hg hgo HRS HRN hvv
          go_wp2_with fail
          refine HV.out.mono ?_
          rintro _ _ ⟨rfl, rfl⟩
          go_wp2_with fail
          go_ret2
          exact ⟨rfl, hbw⟩
  · obtain ⟨e1, e2⟩ := read_none (s := s) (by unfold readH; rw [if_neg h8])
    rw [e1, e2]
    have h8i : ¬ (s.size : Int) = 8 := by omega
    clear e1 e2 h8
    go_enter Tryd.func21, Tryd.ntmps21
    go_wp2_with fail
    go_ret2
    exact ⟨rfl, Ext.refl _⟩
end Go.Proofs.YtelcabjhbgkfmaaDoor
