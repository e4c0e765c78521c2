import Derived.Test.YtblojobgchkipaaKeysPure
import Derived.Deep.DeepCutAuto
import Derived.Lib.SlicesS
import Derived.Deep.CutBlock
namespace Go.Proofs.Ytblojobgchkipaa.keysOne
open Go.RowKit
set_option linter.unusedVariables false
attribute [local go_sem ↓] Go.wp_at_zero Go.wp_at_succ

set_option maxRecDepth 100000 in
set_option maxHeartbeats 2000000 in
theorem walk (key value other : ByteArray) (w : World) (z0 : key.size ≤ 140737488355328) (z1 : value.size ≤ 140737488355328) (z2 : other.size ≤ 140737488355328) :
    Calls Try.prog 4 #[.string key, .string value, .string other] w fun e w' => e = .returned (.bool true) ∧ Ext w w' := by
  obtain ⟨hE, hN, hG⟩ := errR_rules
  have hka : keyK ⟨#[97]⟩ = 0 := by decide
  have HBA := Lib.hid (bitsR_ok hka)
  have HKA := Lib.hid hka
  obtain ⟨ba, HBB⟩ : ∃ b, Hid (bitsS (plcN ⟨#[97]⟩) = b) := ⟨_, rfl⟩
  have hba : ba.size = 8 := by rw [← HBB.out]; exact bitsS_size _
  have HT := Lib.hid (tree_one key value)
  clear hka
  go_enter Try.func4, Try.ntmps4
  go_wp2_with fail
  refine (Bits_any ⟨#[97]⟩ _).mono ?_
  rw [HBA.out, HBB.out, HKA.out, errR_0]
  rintro _ w1 ⟨rfl, hb1⟩
  have rP : Rd (w1.alloc (.cells #[.string key, .string value, .bool false] 28)) 3 (some ⟨w1.heap.size, 0, none⟩) 1 1 (([⟨key, value, false⟩] : List Pr).flatMap Pr.cells) :=
    ⟨rfl, Nat.le_refl _, fun _ => ⟨_, rfl, by simp, fun j u hu => news_new w1 28 [.string key, .string value, .bool false] _ rfl j u hu⟩⟩
  have e1 : Ext w (w1.alloc (.cells #[.string key, .string value, .bool false] 28)) := hb1.alloc _
  go_wp2_with fail
  generalize w1.alloc (.cells #[.string key, .string value, .bool false] 28) = W1 at *
  generalize w1.heap.size = g at *
  clear hb1
  obtain ⟨es, HES⟩ : ∃ es : List Pr, Hid (([⟨key, value, false⟩] : List Pr) = es) := ⟨_, rfl⟩
  rw [HES.out] at HT rP
  refine (KRoot_any _ 1 1 es _ rP (by simp only [maxLen]; omega)).mono ?_
  obtain ⟨rt, HRT⟩ : ∃ x, Hid (krootV es = x) := ⟨_, rfl⟩
  by_cases hbad : keyK key ≠ 0 ∨ 200 < value.size
  · have hk : treeK es ≠ 0 := by
      rw [HT.out]
      split
      · rename_i h; exact h
      · rename_i h
        rw [if_pos (hbad.resolve_left h)]
        decide
    have HK := Lib.hid (isOk_no hk)
    obtain ⟨k, HKK⟩ : ∃ x, Hid (treeK es = x) := ⟨_, rfl⟩
    rw [HRT.out, HKK.out]
    rw [HKK.out] at HK
    rintro _ w2 ⟨rfl, hb2⟩
    have hko := HK.out
    have hh : key.size = 0 ∨ (0 < key.size ∧ 200 < key.size) ∨ (0 < key.size ∧ key.size ≤ 200 ∧ 200 < value.size) := by
      by_cases h1 : key.size = 0
      · exact .inl h1
      · by_cases h2 : 200 < key.size
        · exact .inr (.inl ⟨by omega, h2⟩)
        · exact .inr (.inr ⟨by omega, by omega, hbad.resolve_left (fun h => h (keyK_ok (by omega) (by omega)))⟩)
    clear hk hbad HT
    rcases hh with h | ⟨h, h2⟩ | ⟨h, h2, h3⟩
    · obtain rfl := str_noneP h
      clear h
      go_wp2_with fail
      go_ret
      exact ⟨rfl, e1.trans hb2⟩
    · obtain ⟨q1, q2⟩ := str_someP h
      go_wp2_with fail
      go_ret
      exact ⟨ret_bool (by first | (simp; done) | (simp; omega)), e1.trans hb2⟩
    · obtain ⟨q1, q2⟩ := str_someP h
      go_wp2_with fail
      go_ret
      exact ⟨ret_bool (by first | (simp; done) | (simp; omega)), e1.trans hb2⟩
  · have hkey : keyK key = 0 := Decidable.byContradiction fun h => hbad (.inl h)
    have hval : value.size ≤ 200 := Nat.le_of_not_lt fun h => hbad (.inr h)
    have htk : treeK es = 0 := by rw [HT.out, if_neg (not_not_intro hkey), if_neg (by omega)]
    have hr1 : rowOf es (plcN key) = kleaf key value := by rw [← HES.out, row_one, if_pos rfl]
    have hc1 := kchk_there htk hkey hval hr1
    have hp1 : kprK es key = 0 := (kprK_key htk).trans hkey
    have hl1 := kprL_len hp1
    rw [HRT.out] at hc1
    have HTK := Lib.hid htk
    have HC1 := Lib.hid hc1
    have HP1 := Lib.hid hp1
    have HB1 := Lib.hid (bitsR_ok hkey)
    have HKEY := Lib.hid hkey
    obtain ⟨bk, HBK⟩ : ∃ b, Hid (bitsS (plcN key) = b) := ⟨_, rfl⟩
    have hbk : bk.size = 8 := by rw [← HBK.out]; exact bitsS_size _
    clear hbad hval htk hr1 hc1 hp1 hkey
    rw [HRT.out, HTK.out, errR_0]
    rintro _ w2 ⟨rfl, hb2⟩
    go_wp2_with fail
    refine (KProve_any _ 1 1 es key _ (rP.ext hb2) (by simp only [maxLen]; omega)).mono ?_
    rw [HP1.out, errR_0]
    rintro _ w3 ⟨⟨v3, rfl, o3⟩, hb3⟩
    obtain ⟨A3, c3, rfl, hc3, R3⟩ := o3.rd
    rw [hl1] at R3
    rw [hl1]
    clear o3
    go_wp2_with fail
    refine (KCheck_any rt key value true A3 8 c3 _ _ R3 hc3).mono ?_
    rw [HC1.out, errR_0]
    rintro _ w4 ⟨rfl, hb4⟩
    go_wp2_with fail
    refine (Bits_any key _).mono ?_
    rw [HB1.out, HBK.out, HKEY.out, errR_0]
    rintro _ w5 ⟨rfl, hb5⟩
    go_wp2_with fail
    refine (Bits_any other _).mono ?_
    have e5 : Ext W1 w5 := ((hb2.trans hb3).trans hb4).trans hb5
    clear hb2 hb3 hb4 hb5 R3
    by_cases hko : keyK other = 0
    · rw [bitsR_ok hko, hko, errR_0]
      obtain ⟨bo, HBO⟩ : ∃ b, Hid (bitsS (plcN other) = b) := ⟨_, rfl⟩
      have hbo : bo.size = 8 := by rw [← HBO.out]; exact bitsS_size _
      rw [HBO.out]
      rintro _ w6 ⟨rfl, hb6⟩
      by_cases hs : bk = bo
      · subst hs
        go_wp2_with fail
        go_ret
        exact ⟨rfl, (e1.trans e5).trans hb6⟩
      · have hpl : plcN other ≠ plcN key := fun e => hs (by rw [← HBK.out, ← HBO.out, e])
        have hr2 : rowOf es (plcN other) = leE := by rw [← HES.out, row_one, if_neg hpl]
        have hc2 := kchk_gone HTK.out hko hr2
        have hp2 : kprK es other = 0 := (kprK_key HTK.out).trans hko
        have hl2 := kprL_len hp2
        rw [HRT.out] at hc2
        have HC2 := Lib.hid hc2
        have HP2 := Lib.hid hp2
        have hbe := (Lib.bytes_beq_false_iff bk bo).2 hs
        clear hpl hr2 hc2 hp2 hs
        go_wp2_with fail
        refine (KProve_any _ 1 1 es other _ ((rP.ext e5).ext hb6) (by simp only [maxLen]; omega)).mono ?_
        rw [HP2.out, errR_0]
        rintro _ w7 ⟨⟨v7, rfl, o7⟩, hb7⟩
        obtain ⟨A7, c7, rfl, hc7, R7⟩ := o7.rd
        rw [hl2] at R7
        rw [hl2]
        clear o7
        go_wp2_with fail
        refine (KCheck_any rt other ⟨#[]⟩ false A7 8 c7 _ _ R7 hc7).mono ?_
        rw [HC2.out, errR_0]
        rintro _ w8 ⟨rfl, hb8⟩
        go_wp2_with fail
        go_ret
        exact ⟨rfl, (((e1.trans e5).trans hb6).trans hb7).trans hb8⟩
    · have HO := Lib.hid (isOk_no hko)
      obtain ⟨ko, HKO⟩ : ∃ x, Hid (keyK other = x) := ⟨_, rfl⟩
      obtain ⟨bo, HBO⟩ : ∃ x, Hid (bitsR other = x) := ⟨_, rfl⟩
      rw [HKO.out] at HO
      rw [HKO.out, HBO.out]
      have ho := HO.out
      rintro _ w6 ⟨rfl, hb6⟩
      clear hko
      go_wp2_with fail
      go_ret
      exact ⟨rfl, (e1.trans e5).trans hb6⟩
end Go.Proofs.Ytblojobgchkipaa.keysOne
