import Derived.Test.YtgfkalhpefjenaaDoorPrune3
import Derived.Test.YtgfkalhpefjenaaDoorR5
import Derived.Test.YtgfkalhpefjenaaDoorQuiet
import Derived.Deep.DeepCutAuto
import Derived.Deep.CutBlock
namespace Go.Proofs.YtgfkalhpefjenaaDoor.pruneOne
open Go.RowKit
set_option linter.unusedVariables false
attribute [local go_sem ↓] Go.wp_at_zero Go.wp_at_succ

theorem new_bad (w : World) : Calls Tryd.prog 75 #[.int .i64 0, .int .i64 5] w fun e w' => e = .returned (.tuple #[.pointer none, errR 1]) ∧ Ext w w' :=
  PrNew_bad 0 5 w (by decide)

set_option maxRecDepth 100000 in
set_option maxHeartbeats 8000000 in
theorem walk_no (A : Option Addr) (n c : Nat) (xs : List Int) (i k : Int) (w : World) (hm : c ≤ maxLen) (hr : Rd w 1 A n c (xs.map (Value.int .i64))) (hg : ErrG w) (h : ¬ (leafsOk xs ∧ 0 ≤ i ∧ i < n ∧ 0 ≤ k ∧ k < n)) :
    Calls Tryd.prog 17 #[.slice A n c, .int .i64 i, .int .i64 k] w fun e w' => e = .returned (.bool true) ∧ Ext w w' := by
  by_cases hk : leafsOk xs
  · have hh : i < 0 ∨ (0 ≤ i ∧ (n : Int) ≤ i) ∨ (0 ≤ i ∧ i < n ∧ k < 0) ∨ (0 ≤ i ∧ i < n ∧ 0 ≤ k ∧ (n : Int) ≤ k) := by
      by_cases h1 : 0 ≤ i ∧ i < n
      · by_cases h2 : 0 ≤ k ∧ k < n
        · exact absurd ⟨hk, h1.1, h1.2, h2⟩ h
        · omega
      · omega
    clear h
    have hlc := hr.2.1
    rcases hh with h1 | ⟨h1, h2⟩ | ⟨h1, h2, h3⟩ | ⟨h1, h2, h3, h4⟩
    all_goals
      go_enter Tryd.func17, Tryd.ntmps17
      go_wp2_with fail
      refine (Root_ok A n c xs _ hr hm hk).mono ?_
      rintro _ w1 ⟨rfl, hb1⟩
      go_wp2_with fail
      refine (new_bad _).mono ?_
      rintro _ w2 ⟨rfl, hb2⟩
      have X2 : Ext w w2 := by (repeat (with_reducible first | exact Ext.refl _ | assumption | refine Ext.drew ?_ | refine Ext.drewN ?_ _ | refine Ext.alloc ?_ _ | refine Ext.trans ?_ (by with_reducible assumption)))
      go_wp2_with fail
      refine (Error_same 1 _ (hg.ext X2)).mono ?_
      rintro _ w3 ⟨rfl, hb3⟩
      go_wp2_with fail
      go_ret
      exact ⟨rfl, by (repeat (with_reducible first | exact Ext.refl _ | assumption | refine Ext.drew ?_ | refine Ext.drewN ?_ _ | refine Ext.alloc ?_ _ | refine Ext.trans ?_ (by with_reducible assumption)))⟩
  · clear h
    go_enter Tryd.func17, Tryd.ntmps17
    go_wp2_with fail
    refine (Root_bad A n c xs _ hr hm hk).mono ?_
    rintro _ w1 ⟨rfl, hb1⟩
    simp only [errV]
    go_wp2_with fail
    refine (new_bad _).mono ?_
    rintro _ w2 ⟨rfl, hb2⟩
    have X2 : Ext w w2 := by (repeat (with_reducible first | exact Ext.refl _ | assumption | refine Ext.drew ?_ | refine Ext.drewN ?_ _ | refine Ext.alloc ?_ _ | refine Ext.trans ?_ (by with_reducible assumption)))
    go_wp2_with fail
    refine (Error_same 1 _ (hg.ext X2)).mono ?_
    rintro _ w3 ⟨rfl, hb3⟩
    go_wp2_with fail
    go_ret
    exact ⟨rfl, by (repeat (with_reducible first | exact Ext.refl _ | assumption | refine Ext.drew ?_ | refine Ext.drewN ?_ _ | refine Ext.alloc ?_ _ | refine Ext.trans ?_ (by with_reducible assumption)))⟩

set_option maxRecDepth 100000 in
set_option maxHeartbeats 8000000 in
theorem walk_yes (A : Option Addr) (n c : Nat) (xs : List Int) (i k : Nat) (w : World) (hm : c ≤ maxLen) (hr : Rd w 1 A n c (xs.map (Value.int .i64))) (hg : ErrG w) (hk : leafsOk xs) (hi : i < n) (hkn : k < n) :
    Calls Tryd.prog 17 #[.slice A n c, .int .i64 i, .int .i64 k] w fun e w' => e = .returned (.bool true) ∧ Ext w w' := by
  have hx := hr.lenI
  have hlc := hr.2.1
  have hms : c ≤ 9223372036854775807 := by unfold maxLen at hm; omega
  have hn := hk.1
  rw [hx] at hn
  have HKK := Lib.hid hk
  have hgi := List.getElem?_eq_getElem (l := xs) (i := i) (by omega)
  obtain ⟨z, hz⟩ : ∃ z, xs[i]'(by omega) = z := ⟨_, rfl⟩
  rw [hz] at hgi
  obtain ⟨ad, rfl, hb, hcell⟩ := hr.getI hgi
  have HV := Lib.hid (vld_ofL hk.2 (by omega))
  obtain ⟨q1, q2⟩ := pmV_way hk hx hi
  have HQ1 := Lib.hid q1
  have HQ2 := Lib.hid q2
  have HPC := Lib.hid (pcheck_way hk hx hgi)
  have HWL := Lib.hid (way_len_le (xs := xs) (i := i) (by omega))
  have HCELL := Lib.hid hcell
  clear hz hgi q1 q2 hx hk
  generalize wayL xs i = p at *
  go_enter Tryd.func17, Tryd.ntmps17
  go_wp2_with fail
  refine (Root_ok (some ad) n c xs _ hr hm HKK.out).mono ?_
  rintro _ w1 ⟨rfl, hb1⟩
  generalize ofL xs = rt at *
  go_wp2_with fail
  refine (PrNew_ok (n : Int) rt _ (by omega) (by omega) HV.out).mono ?_
  rintro _ w2 ⟨⟨tb, mb, rfl, ht2⟩, hb2⟩
  have X2 : Ext w w2 := by (repeat (with_reducible first | exact Ext.refl _ | assumption | refine Ext.drew ?_ | refine Ext.drewN ?_ _ | refine Ext.alloc ?_ _ | refine Ext.trans ?_ (by with_reducible assumption)))
  have HT2 := Lib.hid (ht2.lower (b := w.heap.size) hb1.size)
  clear ht2
  go_wp2_with fail
  refine (PMake_any (some ad) n c xs (i : Int) (n : Int) _ (hr.ext X2) hm).mono ?_
  rw [HQ1.out, HQ2.out]
  rintro _ w3 ⟨⟨v3, rfl, o3⟩, hb3⟩
  obtain ⟨A3, c3, rfl, hc3, R3⟩ := o3.rd
  have X3 := X2.trans hb3
  have HT3 := Lib.hid (HT2.out.ext hb3)
  have hcell3 : w3.cell? (ad.add i) = some (.int .i64 z) := (X3.cell (by rw [blk_add]; exact hb)).trans hcell
  clear o3 hcell
  simp only [errR_0]
  go_wp2_with fail
  refine (Learn_ok HT3.out (by omega) (i : Int) z A3 p.length c3 p R3 hc3 HWL.out X3.size HPC.out (.inl rfl) (kl_wf (by omega) (by omega))).mono ?_
  rintro _ w4 ⟨rfl, ht4, hg4⟩
  have X4 : Ext w w4 := HT3.out.step X3 (Nat.le_refl _) hg4
  rw [show cntL (fun _ => none) (i : Int) 0 = 1 from rfl] at ht4
  have HT4 := Lib.hid ht4
  have hcell4 : w4.cell? (ad.add i) = some (.int .i64 z) := (X4.cell (by rw [blk_add]; exact hb)).trans HCELL.out
  clear ht4 hg4 hcell3
  have hn0 : (0 : Int) ≤ i ∧ (i : Int) < n := by omega
  by_cases hki : k = i
  · subst hki
    have e1 : fdK (n : Int) (Kn.set (fun _ => none) (k : Int) (some (z, p))) (k : Int) = 0 := fdK_some hn0 (if_pos rfl)
    have e2 : knS (n : Int) (Kn.set (fun _ => none) (k : Int) (some (z, p))) (k : Int) = z := by
      unfold knS; rw [if_pos e1]; unfold Kn.set; rw [if_pos rfl]; rfl
    have HE1 := Lib.hid e1
    have HE2 := Lib.hid e2
    clear e1 e2
    go_wp2_with fail
    refine (Knows_any HT4.out (k : Int) (by omega)).mono ?_
    rw [HE1.out, HE2.out]
    rintro _ w5 ⟨rfl, hb5⟩
    have X5 := X4.trans hb5
    have HT5 := Lib.hid (HT4.out.ext hb5)
    have hcell5 : w5.cell? (ad.add k) = some (.int .i64 z) := (X5.cell (by rw [blk_add]; exact hb)).trans HCELL.out
    simp only [errR_0]
    go_wp2_with fail
    refine (Many_any HT5.out).mono ?_
    rintro _ _ ⟨rfl, rfl⟩
    go_wp2_with fail
    go_ret
    exact ⟨rfl, X5⟩
  · have hne : ((k : Int) == (i : Int)) = false := by simp; omega
    have e1 : fdK (n : Int) (Kn.set (fun _ => none) (i : Int) (some (z, p))) (k : Int) = 5 := fdK_none (by omega) (if_neg (by omega))
    have e3 : fdK (n : Int) (Kn.set (fun _ => none) (i : Int) (some (z, p))) (i : Int) = 0 := fdK_some hn0 (if_pos rfl)
    have HE1 := Lib.hid e1
    have HE3 := Lib.hid e3
    obtain ⟨ks, HKS⟩ : ∃ q, Hid (knS (n : Int) (Kn.set (fun _ => none) (i : Int) (some (z, p))) (k : Int) = q) := ⟨_, rfl⟩
    clear e1 e3 hki
    go_wp2_with fail
    refine (Knows_any HT4.out (k : Int) (by omega)).mono ?_
    rw [HE1.out, HKS.out]
    rintro _ w5 ⟨rfl, hb5⟩
    have X5 := X4.trans hb5
    have HT5 := Lib.hid (HT4.out.ext hb5)
    go_wp2_with fail
    refine (Error_same 5 _ (hg.ext X5)).mono ?_
    rintro _ w6 ⟨rfl, hb6⟩
    have X6 := X5.trans hb6
    have HT6 := Lib.hid (HT5.out.ext hb6)
    go_wp2_with fail
    refine (Forget_ok HT6.out (i : Int) (by omega) HE3.out (kl_wf (by omega) (by omega))).mono ?_
    rintro _ w7 ⟨rfl, ht7, hg7⟩
    have X7 : Ext w w7 := HT6.out.step X6 (Nat.le_refl _) hg7
    have HT7 := Lib.hid ht7
    clear ht7 hg7
    go_wp2_with fail
    refine (Many_any HT7.out).mono ?_
    rintro _ _ ⟨rfl, rfl⟩
    go_wp2_with fail
    go_ret
    exact ⟨rfl, X7⟩
theorem walk (A : Option Addr) (n c : Nat) (xs : List Int) (i k : Int) (w : World) (hl : xs.length = n) (hm : c ≤ maxLen) (hr : Rd w 1 A n c (xs.map (Value.int .i64))) (hgd : ∀ y ∈ xs, igood y) (h0 : igood i) (h1 : igood k) (hg : ErrG w) :
    Calls Tryd.prog 17 #[.slice A n c, .int .i64 i, .int .i64 k] w fun e w' => e = .returned (.bool true) ∧ Ext w w' := by
  by_cases h : leafsOk xs ∧ 0 ≤ i ∧ i < n ∧ 0 ≤ k ∧ k < n
  · obtain ⟨hk, a1, a2, a3, a4⟩ := h
    obtain ⟨i, rfl⟩ := Int.eq_ofNat_of_zero_le a1
    obtain ⟨k, rfl⟩ := Int.eq_ofNat_of_zero_le a3
    exact walk_yes A n c xs i k w hm hr hg hk (by omega) (by omega)
  · exact walk_no A n c xs i k w hm hr hg h
end Go.Proofs.YtgfkalhpefjenaaDoor.pruneOne
