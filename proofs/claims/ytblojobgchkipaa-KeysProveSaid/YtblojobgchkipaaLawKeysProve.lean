import Derived.Test.YtblojobgchkipaaKeysAll
import Derived.Test.YtblojobgchkipaaKeysClash
import Derived.Deep.DeepCutAuto
import Derived.Deep.CutRange
import Derived.Deep.RegionWith
import Derived.Deep.QuietTactic
import Derived.BigQuiet
import Derived.Test.YtblojobgchkipaaQuiet
import Derived.Deep.RegionHeld3
import Derived.Lib.SlicesS
import Derived.Deep.CutBlock
namespace Go.Proofs.Ytblojobgchkipaa.keysProve
open Go.RowKit
set_option linter.unusedVariables false
attribute [local go_sem ↓] Go.wp_at_zero Go.wp_at_succ

set_option maxRecDepth 100000 in
set_option maxHeartbeats 2000000 in
theorem walk (A : Option Addr) (n c : Nat) (es : List Pr) (key value : ByteArray) (w : World) (l : es.length = n) (m : c ≤ maxLen) (R : Rd w 3 A n c (es.flatMap Pr.cells)) (z1 : key.size ≤ 140737488355328) (z2 : value.size ≤ 140737488355328) :
    Calls Try.prog 5 #[.slice A n c, .string key, .string value] w fun e w' => e = .returned (.bool true) ∧ Ext w w' := by
  obtain ⟨hE, hN, hG⟩ := errR_rules
  have hms : c ≤ 9223372036854775807 := by unfold maxLen at m; omega
  have HX := Lib.hid l
  have HL := Lib.hid R.2.1
  clear l
  have hka : keyK ⟨#[97]⟩ = 0 := by decide
  have HT : Hid (treeK [⟨⟨#[97]⟩, ⟨#[120]⟩, false⟩] = 0) := by
    refine Lib.hid ?_
    rw [tree_one, if_neg (not_not_intro hka), if_neg (by decide)]
  have HR1 : Hid (rowOf [⟨⟨#[97]⟩, ⟨#[120]⟩, false⟩] (plcN ⟨#[97]⟩) = kleaf ⟨#[97]⟩ ⟨#[120]⟩) := by
    refine Lib.hid ?_
    rw [row_one, if_pos rfl]
  obtain ⟨ea, HEA⟩ : ∃ es : List Pr, Hid (([⟨⟨#[97]⟩, ⟨#[120]⟩, false⟩] : List Pr) = es) := ⟨_, rfl⟩
  rw [HEA.out] at HT HR1
  have hc1 := kchk_there HT.out hka (by decide) HR1.out
  have hp1 : kprK ea ⟨#[97]⟩ = 0 := (kprK_key HT.out).trans hka
  have hl1 := kprL_len hp1
  obtain ⟨rt, HRT⟩ : ∃ x, Hid (krootV ea = x) := ⟨_, rfl⟩
  rw [HRT.out] at hc1
  have HC1 := Lib.hid hc1
  have HP1 := Lib.hid hp1
  have HL1 := Lib.hid hl1
  clear hka HR1 hc1 hp1 hl1
  go_enter Try.func5, Try.ntmps5
  have rP : Rd (w.alloc (.cells #[.string ⟨#[97]⟩, .string ⟨#[120]⟩, .bool false] 28)) 3 (some ⟨w.heap.size, 0, none⟩) 1 1 (([⟨⟨#[97]⟩, ⟨#[120]⟩, false⟩] : List Pr).flatMap Pr.cells) :=
    ⟨rfl, Nat.le_refl _, fun _ => ⟨_, rfl, by simp, fun j u hu => news_new w 28 [.string ⟨#[97]⟩, .string ⟨#[120]⟩, .bool false] _ rfl j u hu⟩⟩
  rw [HEA.out] at rP
  have e1 : Ext w (w.alloc (.cells #[.string ⟨#[97]⟩, .string ⟨#[120]⟩, .bool false] 28)) := (Ext.refl _).alloc _
  go_wp2_with fail
  generalize w.alloc (.cells #[.string ⟨#[97]⟩, .string ⟨#[120]⟩, .bool false] 28) = W1 at *
  refine (KRoot_any _ 1 1 ea _ rP (by simp only [maxLen]; omega)).mono ?_
  rw [HRT.out, HT.out, errR_0]
  rintro _ w1 ⟨rfl, hb1⟩
  go_wp2_with fail
  refine (KProve_any _ 1 1 ea _ _ (rP.ext hb1) (by simp only [maxLen]; omega)).mono ?_
  rw [HP1.out, errR_0]
  rintro _ w2 ⟨⟨v2, rfl, o2⟩, hb2⟩
  obtain ⟨A2, c2, rfl, hc2, R2⟩ := o2.rd
  rw [HL1.out] at R2
  rw [HL1.out]
  clear o2
  go_wp2_with fail
  refine (KCheck_any rt _ _ true A2 8 c2 _ _ R2 hc2).mono ?_
  rw [HC1.out, errR_0]
  rintro _ w3 ⟨rfl, hb3⟩
  have e3 := ((e1.trans hb1).trans hb2).trans hb3
  clear R2 hb1 hb2 hb3 e1 rP
  clear hc2
  go_wp2_with fail
  refine (KRoot_any A n c es _ (R.ext e3) m).mono ?_
  obtain ⟨rv, HRV⟩ : ∃ x, Hid (krootV es = x) := ⟨_, rfl⟩
  rw [HRV.out]
  by_cases htk : treeK es = 0
  · have HTK := Lib.hid htk
    rw [htk, errR_0]
    clear htk
    rintro _ w4 ⟨rfl, hb4⟩
    have e4 := e3.trans hb4
    clear e3 hb4
    go_wp2_with fail
    go_loopw [13, 14, 15] (fun x _ _ wr => ∃ i : Nat, x = .int .i64 i ∧ i ≤ n ∧ Ext w wr) (fun x _ _ _ => n - (intOf x).toNat)
    case atStart => exact ⟨0, rfl, by omega, e4⟩
    case round =>
      obtain ⟨i, rfl, hi, hbw⟩ := hrel
      by_cases hc : i < n
      · have hgj := List.getElem?_eq_getElem (l := es) (i := i) (by rw [HX.out]; exact hc)
        have hall := tree_all HTK.out hgj
        obtain ⟨ad, rfl, hb, y0, y1, -⟩ := (R.ext hbw).getP hgj
        generalize es[i]'(by rw [HX.out]; exact hc) = x at *
        obtain ⟨pk, pv, pg⟩ := x
        obtain ⟨hk, hv, hro⟩ := hall
        have hpr : kprK es pk = 0 := (kprK_key HTK.out).trans hk
        have hpl := kprL_len hpr
        have hck := kchk_there HTK.out hk hv hro
        rw [HRV.out] at hck
        have HPR := Lib.hid hpr
        have HPL := Lib.hid hpl
        have HCK := Lib.hid hck
        simp only at y0 y1
        clear hpr hpl hck hro hk hv
        have HA := HL.out
        go_wp2_with fail
        refine (KProve_any _ n c es _ _ (R.ext hbw) m).mono ?_
        rw [HPR.out, errR_0]
        rintro _ w5 ⟨⟨v5, rfl, o5⟩, hb5⟩
        obtain ⟨A5, c5, rfl, hc5, R5⟩ := o5.rd
        rw [HPL.out] at R5
        rw [HPL.out]
        clear o5
        have y0' := (hb5.cell (by rw [blk_add]; exact hb)).trans y0
        have hb' : (⟨(ad.add (i * 3)).block, (ad.add (i * 3)).off + 1, none⟩ : Addr).block < wr.heap.size := by show (ad.add (i * 3)).block < _; rw [blk_add]; exact hb
        have y1' := (hb5.cell hb').trans y1
        clear y0 y1
        have hlt : ad.block < w5.heap.size := hb5.lt hb
        have HC0 := Lib.hid y0'
        have HC1' := Lib.hid y1'
        have hlp : (ad.add (i * 3)).block < w5.heap.size := by rw [blk_add]; exact hlt
        go_upto_region 13 with (fail)
        clear y0' y1'
        go_cut [93] from 76 to 92 (fun v wc => v = .bool false ∧ Ext w5 wc)
        case first =>
          as_aux_lemma =>
          go_region_held3 (fun W => W.cell? (ad.add (i * 3)) = some (.string pk) ∧ W.cell? ⟨(ad.add (i * 3)).block, (ad.add (i * 3)).off + 1, none⟩ = some (.string pv)) (first | exact ⟨HC0.out, HC1'.out⟩ | exact ⟨(Ext.cell (p := ad.add (i * 3)) (by (repeat (with_reducible first | exact Ext.refl _ | assumption | refine Ext.drew ?_ | refine Ext.drewN ?_ _ | refine Ext.alloc ?_ _ | refine Ext.trans ?_ (by with_reducible assumption)))) hlp).trans HC0.out, (Ext.cell (p := ⟨(ad.add (i * 3)).block, (ad.add (i * 3)).off + 1, none⟩) (by (repeat (with_reducible first | exact Ext.refl _ | assumption | refine Ext.drew ?_ | refine Ext.drewN ?_ _ | refine Ext.alloc ?_ _ | refine Ext.trans ?_ (by with_reducible assumption)))) hlp).trans HC1'.out⟩) (first
            | (go_at_call 16; (with_reducible refine (KCheck_any rv pk pv true A5 8 c5 _ _ (by exact R5.ext (by (repeat (with_reducible first | exact Ext.refl _ | assumption | refine Ext.drew ?_ | refine Ext.drewN ?_ _ | refine Ext.alloc ?_ _ | refine Ext.trans ?_ (by with_reducible assumption))))) hc5).mono ?_); rw [HCK.out, errR_0]; rintro _ w6 ⟨rfl, hb6⟩)
            | fail)
          all_goals
            go_wp2_with fail
            go_meet
            exact ⟨rfl, by (repeat (with_reducible first | exact Ext.refl _ | assumption | refine Ext.drew ?_ | refine Ext.drewN ?_ _ | refine Ext.alloc ?_ _ | refine Ext.trans ?_ (by with_reducible assumption)))⟩
        case rest =>
        obtain ⟨rfl, hb6⟩ := hcut
        go_wp2_with fail
        go_roundw
        case rel => exact ⟨i + 1, by go_num, by omega, (hbw.trans hb5).trans hb6⟩
        case measure => simp [intOf]; omega
      · obtain rfl : i = n := by omega
        clear hi hc
        go_wp2_with fail
        refine (KProve_any _ i c es key _ (R.ext hbw) m).mono ?_
        rw [kprK_key HTK.out]
        by_cases hkey : keyK key = 0
        · have hpr : kprK es key = 0 := (kprK_key HTK.out).trans hkey
          have HPL := Lib.hid (kprL_len hpr)
          have HVL := Lib.hid (kprL_vld hpr)
          have HKEY := Lib.hid hkey
          have HB1 := Lib.hid (bitsR_ok hkey)
          obtain ⟨bk, HBK⟩ : ∃ b, Hid (bitsS (plcN key) = b) := ⟨_, rfl⟩
          have hbk : bk.size = 8 := by rw [← HBK.out]; exact bitsS_size _
          rw [hkey, errR_0]
          clear hpr hkey
          rintro _ w5 ⟨⟨v5, rfl, o5⟩, hb5⟩
          obtain ⟨A5, c5, rfl, hc5, R5⟩ := o5.rd
          rw [HPL.out] at R5
          rw [HPL.out]
          have e5 := hbw.trans hb5
          clear o5 hbw hb5 e4
          go_wp2_with fail
          refine (Bits_any key _).mono ?_
          rw [HB1.out, HBK.out, HKEY.out, errR_0]
          rintro _ w6 ⟨rfl, hb6⟩
          have e6 := e5.trans hb6
          have R6 := R5.ext hb6
          clear e5 hb6 R5
          go_wp2_with fail
          have HA0 : Hid (((Value.int .i64 (-1) = .int .i64 (-1) ∧ ∀ (j : Nat) (p : Pr), j < 0 → es[j]? = some p → plcN p.key ≠ plcN key)) ∨ ∃ (j : Nat) (p : Pr), Value.int .i64 (-1) = .int .i64 (j : Int) ∧ j < i ∧ es[j]? = some p ∧ plcN p.key = plcN key) := .inl ⟨rfl, fun j p h => absurd h (Nat.not_lt_zero _)⟩
          go_loopw [19, 20, 21, 22] (fun v x _ _ wr => ∃ k : Nat, x = .int .i64 k ∧ k ≤ i ∧ Ext w6 wr ∧ Hid (((v = .int .i64 (-1) ∧ ∀ (j : Nat) (p : Pr), j < k → es[j]? = some p → plcN p.key ≠ plcN key)) ∨ ∃ (j : Nat) (p : Pr), v = .int .i64 (j : Int) ∧ j < i ∧ es[j]? = some p ∧ plcN p.key = plcN key)) (fun _ x _ _ _ => i - (intOf x).toNat)
          case atStart => exact ⟨0, rfl, by omega, Ext.refl _, HA0⟩
          case round =>
            obtain ⟨k, rfl, hi, hbw, hat⟩ := hrel
            by_cases hc : k < i
            · have hgj := List.getElem?_eq_getElem (l := es) (i := k) (by rw [HX.out]; exact hc)
              have hall := (tree_all HTK.out hgj).1
              obtain ⟨ad, rfl, hb, y0, -, -⟩ := (R.ext (e6.trans hbw)).getP hgj
              generalize es[k]'(by rw [HX.out]; exact hc) = x at *
              obtain ⟨pk, pv, pg⟩ := x
              have HB := Lib.hid (bitsR_ok hall)
              have HK := Lib.hid hall
              simp only at y0
              clear hall
              have HA := HL.out
              go_wp2_with fail
              refine (Bits_any pk _).mono ?_
              rw [HB.out, HK.out, errR_0]
              rintro _ w7 ⟨rfl, hb7⟩
              by_cases hs : plcN pk = plcN key
              · rw [show bitsS (plcN pk) = bk by rw [hs]; exact HBK.out]
                go_wp2_with fail
                go_roundw
                case rel => exact ⟨k + 1, by go_num, by omega, hbw.trans hb7, Lib.hid (.inr ⟨k, _, rfl, hc, hgj, hs⟩)⟩
                case measure => simp [intOf]; omega
              · have hne : bitsS (plcN pk) ≠ bk := fun e => hs (bitsS_inj (plcN_lt _) (plcN_lt _) (e.trans HBK.out.symm))
                have hbe := (Lib.bytes_beq_false_iff (bitsS (plcN pk)) bk).2 hne
                generalize bitsS (plcN pk) = bb at *
                go_wp2_with fail
                go_roundw
                case rel => exact ⟨k + 1, by go_num, by omega, hbw.trans hb7, Lib.hid (hat.out.imp (fun h => ⟨h.1, fun j p hj hjp => by
                  by_cases hjk : j = k
                  · subst hjk
                    rw [hgj] at hjp
                    injection hjp with hjp
                    subst hjp
                    exact hs
                  · exact h.2 j p (by omega) hjp⟩) id)⟩
                case measure => simp [intOf]; omega
            · obtain rfl : k = i := by omega
              have e7 := e6.trans hbw
              have R7 := R6.ext hbw
              clear e6 R6 hbw hi hc HA0
              rcases hat.out with ⟨rfl, hno⟩ | ⟨j, p, rfl, hj, hgj, hpp⟩
              · have hrow : rowOf es (plcN key) = leE := rowOf_none fun j p hjp => hno j p (by have := (List.getElem?_eq_some_iff.1 hjp).1; rw [HX.out] at this; exact this) hjp
                have hck := kchk_gone HTK.out HKEY.out hrow
                rw [HRV.out] at hck
                have HCK := Lib.hid hck
                clear hno hrow hck hat
                go_wp2_with fail
                refine (KCheck_any rv key ⟨#[]⟩ false A5 8 c5 _ _ R7 hc5).mono ?_
                rw [HCK.out, errR_0]
                rintro _ w8 ⟨rfl, hb8⟩
                go_wp2_with fail
                go_ret
                exact ⟨rfl, e7.trans hb8⟩
              · have hall := tree_all HTK.out hgj
                obtain ⟨ad, rfl, hb, y0, y1, -⟩ := (R.ext e7).getP hgj
                obtain ⟨pk, pv, pg⟩ := p
                obtain ⟨-, hv, hro⟩ := hall
                simp only at y0 y1 hpp hro hv
                clear hat hgj
                have HA := HL.out
                by_cases hkk : pk = key
                · subst hkk
                  by_cases hvs : 200 < value.size
                  · have hvi : (200 : Int) < (value.size : Int) := by omega
                    go_wp2_with fail
                    go_ret
                    exact ⟨rfl, e7⟩
                  · have hck := kchk_other HTK.out HKEY.out (Nat.le_of_not_lt hvs) hro
                    have hvi : ¬ (200 : Int) < (value.size : Int) := by omega
                    obtain ⟨ka, HKA⟩ : ∃ x, Hid (kleaf pk value = x) := ⟨_, rfl⟩
                    obtain ⟨kb, HKB⟩ : ∃ x, Hid (kleaf pk pv = x) := ⟨_, rfl⟩
                    rw [HRV.out, HKA.out, HKB.out] at hck
                    obtain ⟨ua, HUA⟩ : ∃ x, Hid (upKV (plcN pk) ka (kprL es pk) = x) := ⟨_, rfl⟩
                    obtain ⟨ub, HUB⟩ : ∃ x, Hid (upKV (plcN pk) kb (kprL es pk) = x) := ⟨_, rfl⟩
                    rw [HUA.out, HUB.out] at hck
                    have HCK := Lib.hid hck
                    have HV := Lib.hid hv
                    clear hro hpp hck
                    go_wp2_with fail
                    refine (KCheck_any rv pk value true A5 8 c5 _ _ R7 hc5).mono ?_
                    rw [HCK.out]
                    obtain ⟨kk, HKK⟩ : ∃ x, Hid (kRootK ua ub = x) := ⟨_, rfl⟩
                    rw [HKK.out]
                    rintro _ w8 ⟨rfl, hb8⟩
                    have hb' : (⟨(ad.add (j * 3)).block, (ad.add (j * 3)).off + 1, none⟩ : Addr).block < wr.heap.size := by show (ad.add (j * 3)).block < _; rw [blk_add]; exact hb
                    have y1' := (hb8.cell hb').trans y1
                    have e8 := e7.trans hb8
                    have R8 := R7.ext hb8
                    clear y0 y1 e7 R7
                    by_cases hvv : value = pv
                    · have hok : isOk kk = true := by
                        rw [← HKK.out, ← HUA.out, ← HUB.out, ← HKA.out, ← HKB.out, hvv, kRootK_self]
                        rfl
                      subst hvv
                      go_wp2_with fail
                      go_ret
                      exact ⟨rfl, e8⟩
                    · have hbe := (Lib.bytes_beq_false_iff value pv).2 hvv
                      by_cases huu : ua = ub
                      · have hok : isOk kk = true := by
                          rw [← HKK.out, huu, kRootK_self]
                          rfl
                        have hks := (keyK_zero.1 HKEY.out)
                        have hsa : (pk ++ ⟨#[0]⟩ ++ value).size ≤ 140737488355328 := by rw [size_cat, size_cat]; show pk.size + 1 + value.size ≤ _; omega
                        have hsb : (pk ++ ⟨#[0]⟩ ++ pv).size ≤ 140737488355328 := by rw [size_cat, size_cat]; show pk.size + 1 + pv.size ≤ _; omega
                        have hva : vld ka = true := by rw [← HKA.out]; exact vld_kleaf _ _
                        have hvb : vld kb = true := by rw [← HKB.out]; exact vld_kleaf _ _
                        have HKA2 : Hid (leafL (pk ++ ⟨#[0]⟩ ++ value).data.toList = ka) := HKA
                        have HKB2 : Hid (leafL (pk ++ ⟨#[0]⟩ ++ pv).data.toList = kb) := HKB
                        have hcl : ∀ W, Ext w8 W → Calls Try.prog 17 #[.int .i64 ka, .int .i64 kb, .string bk, .slice A5 8 c5] W fun e w' => e = .returned (.bool true) ∧ Ext W w' := fun W hW => by
                          rw [← HBK.out]
                          exact clash_true ka kb (plcN pk) A5 c5 (kprL es pk) W (R8.ext hW) hc5 hva hvb (plcN_lt _) HVL.out (by rw [HUA.out, HUB.out]; exact huu)
                        have HCL := Lib.hid hcl
                        have hla : ∀ W, Calls Try.prog 18 #[.string (pk ++ ⟨#[0]⟩ ++ value)] W fun e w' => e = .returned (.int .i64 ka) ∧ Ext W w' := fun W => by
                          have h9 := Leaf_any (pk ++ ⟨#[0]⟩ ++ value) W hsa
                          rw [HKA2.out] at h9
                          exact h9
                        have hlb : ∀ W, Calls Try.prog 18 #[.string (pk ++ ⟨#[0]⟩ ++ pv)] W fun e w' => e = .returned (.int .i64 kb) ∧ Ext W w' := fun W => by
                          have h9 := Leaf_any (pk ++ ⟨#[0]⟩ ++ pv) W hsb
                          rw [HKB2.out] at h9
                          exact h9
                        have HLA := Lib.hid hla
                        have HLB := Lib.hid hlb
                        clear hla hlb
                        have HC0 := Lib.hid y1'
                        have hlt8 : (ad.add (j * 3)).block < w8.heap.size := hb8.lt hb'
                        clear hcl hks huu hvv
                        go_wp2_with fail
                        clear y1'
                        have hcw : ∀ x : WE w8, x.W.cell? ⟨(ad.add (j * 3)).block, (ad.add (j * 3)).off + 1, none⟩ = some (.string pv) := fun x => (Ext.cell (p := ⟨(ad.add (j * 3)).block, (ad.add (j * 3)).off + 1, none⟩) x.h hlt8).trans HC0.out
                        (refine wp_region_ext (w0 := w8) (by kernel_rfl) (by kernel_rfl) (by (repeat (with_reducible first | exact Ext.refl _ | assumption | refine Ext.drew ?_ | refine Ext.drewN ?_ _ | refine Ext.alloc ?_ _ | refine Ext.trans ?_ (by with_reducible assumption)))) ?_; (repeat (go_big_quiet_step ((first
                          | (go_at_call 18; exact quietE (HLA.out _))
                          | (go_at_call 18; exact quietE (HLB.out _))
                          | (go_at_call 17; exact quietE (HCL.out _ (WE.h _))))))); refine wpQuiet_nil ?_)
                        intro w9 hb9
                        go_wp2_with fail
                        go_ret
                        exact ⟨rfl, e8.trans hb9⟩
                      · have hok : isOk kk = false := by
                          refine isOk_no ?_
                          rw [← HKK.out]
                          unfold kRootK
                          rw [if_neg huu]
                          decide
                        clear huu
                        go_wp2_with fail
                        go_quiet (fail)
                        go_wp2_with fail
                        go_ret
                        exact ⟨rfl, by (repeat (with_reducible first | exact Ext.refl _ | assumption | refine Ext.drew ?_ | refine Ext.drewN ?_ _ | refine Ext.alloc ?_ _ | refine Ext.trans ?_ (by with_reducible assumption)))⟩
                · have hbe := (Lib.bytes_beq_false_iff pk key).2 hkk
                  clear hkk
                  go_wp2_with fail
                  go_ret
                  exact ⟨rfl, e7⟩
        · have HK := Lib.hid (isOk_no hkey)
          obtain ⟨k, HKK⟩ : ∃ x, Hid (keyK key = x) := ⟨_, rfl⟩
          have hh : key.size = 0 ∨ (0 < key.size ∧ 200 < key.size) := by
            by_cases h1 : key.size = 0
            · exact .inl h1
            · by_cases h2 : 200 < key.size
              · exact .inr ⟨by omega, h2⟩
              · exact absurd (keyK_ok (by omega) (by omega)) hkey
          rw [HKK.out]
          rw [HKK.out] at HK
          rintro _ w5 ⟨⟨v5, rfl, o5⟩, hb5⟩
          have hko := HK.out
          clear hkey o5
          rcases hh with h | ⟨h, h2⟩
          · obtain rfl := str_noneP h
            clear h
            go_wp2_with fail
            go_ret
            exact ⟨rfl, hbw.trans hb5⟩
          · obtain ⟨q1, q2⟩ := str_someP h
            go_wp2_with fail
            go_ret
            exact ⟨ret_bool (by first | (simp; done) | (simp; omega)), hbw.trans hb5⟩
  · have HK := Lib.hid (isOk_no htk)
    obtain ⟨k, HKK⟩ : ∃ x, Hid (treeK es = x) := ⟨_, rfl⟩
    rw [HKK.out]
    rw [HKK.out] at HK
    rintro _ w4 ⟨rfl, hb4⟩
    have hko := HK.out
    clear htk
    go_wp2_with fail
    go_ret
    exact ⟨rfl, e3.trans hb4⟩
end Go.Proofs.Ytblojobgchkipaa.keysProve
