import Derived.Test.YtnafegofmbhahaaDoorLast
import Derived.Test.YtnafegofmbhahaaDoorLettW
import Derived.Test.YtnafegofmbhahaaDoorError
import Derived.Deep.DeepCutAuto
import Derived.Deep.CutRange
namespace Go.Proofs.YtnafegofmbhahaaDoor.storeFull
open Go.RowKit
set_option linter.unusedVariables false
attribute [local go_sem ↓] Go.wp_at_zero Go.wp_at_succ

def vX : ByteArray := ⟨#[120]⟩
def vY : ByteArray := ⟨#[121]⟩
theorem lett_key (i : Nat) : keyK (lett i) = 0 := keyK_ok (by rw [lett_size]; omega) (by rw [lett_size]; omega)
theorem put_yes {i : Nat} (h : i < 60) : putK (lettP vX i) ⟨lett i, vX, false⟩ = 0 := by
  unfold putK
  rw [if_neg (not_not_intro (lett_key i)), if_neg]
  rintro (h1 | ⟨_, h1⟩)
  · have : vX.size = 1 := rfl
    simp only at h1
    omega
  · rw [lettP_len] at h1; omega
theorem store_yes {i : Nat} (h : i < 60) : storeL (lettP vX i) ⟨lett i, vX, false⟩ = lettP vX (i + 1) := by
  unfold storeL
  rw [if_pos (put_yes h), lettP_put vX (by omega)]
theorem put_no {i : Nat} (h : 60 ≤ i) (h2 : i ≤ 100) : putK (lettP vX 60) ⟨lett i, vX, false⟩ = 4 := by
  obtain ⟨h3, h4⟩ := lettP_low vX (k := 60) (key := lett i) fun j hj => lett_lt (by omega) h2
  unfold putK
  rw [if_neg (not_not_intro (lett_key i)), if_pos]
  exact .inr ⟨h4, by rw [lettP_len]; exact Nat.le_refl _⟩
theorem store_no {i : Nat} (h : 60 ≤ i) (h2 : i ≤ 100) : storeL (lettP vX 60) ⟨lett i, vX, false⟩ = lettP vX 60 := store_bad (by rw [put_no h h2]; decide)
theorem put_has {es : List Pr} {i : Nat} {v : ByteArray} {g : Bool} (h : hasB es (lett i) = true) (hv : v.size ≤ 200) : putK es ⟨lett i, v, g⟩ = 0 := by
  unfold putK
  rw [if_neg (not_not_intro (lett_key i)), if_neg]
  rintro (h1 | ⟨h1, _⟩)
  · simp only at h1; omega
  · simp only at h1; rw [h] at h1; cases h1
theorem has_put {es : List Pr} (ho : Asc es) (p : Pr) : hasB (putL es p) p.key = true := by
  rw [← getE_has, get_put ho, if_pos rfl]; rfl
theorem len_put {es : List Pr} {p : Pr} (h : hasB es p.key = true) : (putL es p).length = es.length := by
  unfold putL
  rw [if_pos h, List.length_set]
/-- put anew, and dropped -/
theorem anew {k i : Nat} (hk : k ≤ 60) (hi : i < k) : putK (lettP vX k) ⟨lett i, vY, false⟩ = 0 ∧ putK (storeL (lettP vX k) ⟨lett i, vY, false⟩) ⟨lett i, ⟨#[]⟩, true⟩ = 0 ∧ getK (storeL (storeL (lettP vX k) ⟨lett i, vY, false⟩) ⟨lett i, ⟨#[]⟩, true⟩) (lett i) = 5 ∧ (storeL (storeL (lettP vX k) ⟨lett i, vY, false⟩) ⟨lett i, ⟨#[]⟩, true⟩).length = k := by
  have ho := lettP_asc vX (k := k) (by omega)
  have h1 := (lettP_has vX (k := k) (by omega) hi).2
  have hp1 : putK (lettP vX k) ⟨lett i, vY, false⟩ = 0 := put_has h1 (by decide)
  have hs1 : storeL (lettP vX k) ⟨lett i, vY, false⟩ = putL (lettP vX k) ⟨lett i, vY, false⟩ := if_pos hp1
  have ho1 := putL_asc ho ⟨lett i, vY, false⟩
  have h2 : hasB (putL (lettP vX k) ⟨lett i, vY, false⟩) (lett i) = true := has_put ho ⟨lett i, vY, false⟩
  have hp2 : putK (putL (lettP vX k) ⟨lett i, vY, false⟩) ⟨lett i, ⟨#[]⟩, true⟩ = 0 := put_has h2 (by decide)
  rw [hs1]
  refine ⟨hp1, hp2, ?_, ?_⟩
  · unfold getK
    rw [get_store ho1 hp2, if_pos rfl]; rfl
  · rw [show storeL (putL (lettP vX k) ⟨lett i, vY, false⟩) ⟨lett i, ⟨#[]⟩, true⟩ = _ from if_pos hp2, len_put (p := ⟨lett i, ⟨#[]⟩, true⟩) h2, len_put (p := ⟨lett i, vY, false⟩) h1, lettP_len]

set_option maxRecDepth 100000 in
set_option maxHeartbeats 2000000 in
theorem walk (n0 at_ : Int) (w : World) (z0 : (Lit.int IntKind.i64 n0).wf = true) (z1 : (Lit.int IntKind.i64 at_).wf = true) (hg : ErrG w) :
    Calls Tryd.prog 6 #[.int .i64 n0, .int .i64 at_] w fun e w' => e = .returned (.bool true) ∧ Ext w w' := by
  obtain ⟨hE, hN, hG⟩ := errR_rules
  by_cases hn : 0 ≤ n0 ∧ n0 ≤ 70
  · obtain ⟨n, rfl⟩ : ∃ n : Nat, n0 = (n : Int) := ⟨n0.toNat, by omega⟩
    have hn' : n ≤ 70 := by omega
    have hnI : (n : Int) ≤ 70 := by omega
    clear hn
    go_enter Tryd.func6, Tryd.ntmps6
    go_wp2_with fail
    refine (SNew_any w.heap.size w (Nat.le_refl _)).mono ?_
    rintro _ w1 ⟨rfl, S1, e1⟩
    have HS1 := Lib.hid S1
    clear S1
    go_wp2_with fail
    go_loopw [6, 7, 8] (fun x _ _ wr => ∃ (i : Nat) (v : Value), x = .int .i64 i ∧ i ≤ n ∧ Ext w wr ∧ Hid (StAt wr w.heap.size w.heap.size v (lettP vX (min i 60)))) (fun x _ _ _ => n - (intOf x).toNat)
    case atStart => exact ⟨0, _, rfl, by omega, e1, HS1⟩
    case round =>
      obtain ⟨i, v, rfl, hi, hbw, hst⟩ := hrel
      by_cases hc : i < n
      · have hci : (i : Int) < (n : Int) := by omega
        go_wp2_with fail
        refine (Lett_any i _ (by omega)).mono ?_
        rintro _ w2 ⟨rfl, hb2⟩
        have e2 := hbw.trans hb2
        have S2 := hst.out.ext hb2
        go_wp2_with fail
        by_cases h60 : i < 60
        · have h60i : (i : Int) < 60 := by omega
          have hm : min i 60 = i := by omega
          have hm2 : i + 1 = min (i + 1) 60 := by omega
          rw [hm] at S2
          refine (SPut_any w.heap.size _ v _ (lett i) vX w2 S2 e2.size).mono ?_
          rw [put_yes h60, store_yes h60, errR_0, hm2]
          rintro _ w3 ⟨rfl, v3, S3, c3, -⟩
          have e3 := Chg.keep e2 S2 (Nat.le_refl _) c3
          have HS3 := Lib.hid S3
          clear S3 c3 S2 hst hbw hb2 e2 hm hm2
          go_wp2_with fail
          refine (Error_any 0 4 _ (hg.ext e3)).mono ?_
          rintro _ w4 ⟨rfl, hb4⟩
          have e4 := e3.trans hb4
          have HS4 := Lib.hid (HS3.out.ext hb4)
          go_wp2_with fail
          go_roundw
          case rel => exact ⟨i + 1, v3, by go_num, by omega, e4, HS4⟩
          case measure => simp [intOf]; omega
        · have h60i : ¬ (i : Int) < 60 := by omega
          have h60j : (60 : Int) ≤ i := by omega
          have hm : min i 60 = 60 := by omega
          have hm2 : 60 = min (i + 1) 60 := by omega
          rw [hm] at S2
          refine (SPut_any w.heap.size _ v _ (lett i) vX w2 S2 e2.size).mono ?_
          rw [put_no (i := i) (by omega) (by omega), store_no (i := i) (by omega) (by omega), hm2]
          rintro _ w3 ⟨rfl, v3, S3, c3, -⟩
          have e3 := Chg.keep e2 S2 (Nat.le_refl _) c3
          have HS3 := Lib.hid S3
          clear S3 c3 S2 hst hbw hb2 e2 hm hm2
          go_wp2_with fail
          refine (Error_is 4 _ (hg.ext e3)).mono ?_
          rintro _ w4 ⟨rfl, hb4⟩
          have e4 := e3.trans hb4
          have HS4 := Lib.hid (HS3.out.ext hb4)
          go_wp2_with fail
          go_roundw
          case rel => exact ⟨i + 1, v3, by go_num, by omega, e4, HS4⟩
          case measure => simp [intOf]; omega
      · obtain rfl : i = n := by omega
        have hci : ¬ (i : Int) < (i : Int) := by omega
        clear hc hi
        go_wp2_with fail
        have hl : (lettP vX (min i 60)).length = min i 60 := lettP_len _ _
        refine (SLen_any w.heap.size _ v _ wr hst.out).mono ?_
        rw [hl]
        rintro _ _ ⟨rfl, rfl⟩
        obtain ⟨k, hk⟩ : ∃ k, min i 60 = k := ⟨_, rfl⟩
        rw [hk] at hst hl ⊢
        have hk60 : k ≤ 60 := by omega
        by_cases hat : 0 ≤ at_ ∧ at_ < k
        · obtain ⟨h0, h1⟩ := hat
          obtain ⟨j, rfl⟩ : ∃ j : Nat, at_ = (j : Int) := ⟨at_.toNat, by omega⟩
          have hj : j < k := by omega
          obtain ⟨a1, a2, a3, a4⟩ := anew hk60 hj
          have A1 := Lib.hid a1
          have A2 := Lib.hid a2
          have A3 := Lib.hid a3
          have A4 := Lib.hid a4
          clear a1 a2 a3 a4
          go_wp2_with fail
          refine (Lett_any j _ (by omega)).mono ?_
          rintro _ w2 ⟨rfl, hb2⟩
          have e2 := hbw.trans hb2
          have S2 := hst.out.ext hb2
          go_wp2_with fail
          refine (SPut_any w.heap.size _ v _ (lett j) vY w2 S2 e2.size).mono ?_
          rw [A1.out, errR_0]
          rintro _ w3 ⟨rfl, v3, S3, c3, -⟩
          have e3 := Chg.keep e2 S2 (Nat.le_refl _) c3
          have HS3 := Lib.hid S3
          clear S3 c3 S2 hb2 e2
          go_wp2_with fail
          refine (Lett_any j _ (by omega)).mono ?_
          rintro _ w4 ⟨rfl, hb4⟩
          have e4 := e3.trans hb4
          have S4 := HS3.out.ext hb4
          go_wp2_with fail
          refine (SDrop_any w.heap.size _ v3 _ (lett j) w4 S4 e4.size).mono ?_
          rw [A2.out, errR_0]
          rintro _ w5 ⟨rfl, v5, S5, c5, -⟩
          have e5 := Chg.keep e4 S4 (Nat.le_refl _) c5
          have HS5 := Lib.hid S5
          clear S5 c5 S4 hb4 e4 HS3
          go_wp2_with fail
          refine (Lett_any j _ (by omega)).mono ?_
          rintro _ w6 ⟨rfl, hb6⟩
          have e6 := e5.trans hb6
          have S6 := HS5.out.ext hb6
          go_wp2_with fail
          refine (SGet_any w.heap.size _ v5 _ (lett j) w6 S6).mono ?_
          rw [A3.out]
          rintro _ w7 ⟨rfl, hb7⟩
          have e7 := e6.trans hb7
          have S7 := Lib.hid (S6.ext hb7)
          clear S6 hb6 hb7
          go_wp2_with fail
          refine (Error_is 5 _ (hg.ext e7)).mono ?_
          rintro _ w8 ⟨rfl, hb8⟩
          have e8 := e7.trans hb8
          go_wp2_with fail
          refine (SLen_any w.heap.size _ v5 _ w8 (S7.out.ext hb8)).mono ?_
          rw [A4.out]
          rintro _ _ ⟨rfl, rfl⟩
          go_wp2_with fail
          go_ret
          exact ⟨rfl, e8⟩
        · have hat' : at_ < 0 ∨ (0 ≤ at_ ∧ (k : Int) ≤ at_) := by omega
          clear hat
          have hkn : (k = i ∧ (k : Int) = i) ∨ ((k : Int) ≠ i ∧ (60 : Int) < i ∧ k = 60) := by omega
          rcases hat' with h | ⟨h, h2⟩
          all_goals
            rcases hkn with ⟨rfl, -⟩ | ⟨h3, h4, rfl⟩
            all_goals
              go_wp2_with fail
              go_ret
              exact ⟨rfl, hbw⟩
  · have hn' : n0 < 0 ∨ (0 ≤ n0 ∧ 70 < n0) := by omega
    clear hn
    rcases hn' with h | ⟨h, h2⟩
    all_goals
      go_enter Tryd.func6, Tryd.ntmps6
      go_wp2_with fail
      go_ret
      exact ⟨rfl, Ext.refl _⟩
end Go.Proofs.YtnafegofmbhahaaDoor.storeFull
