/- the references' rows of a tree of keys. -/
import Derived.Test.YtnafegofmbhahaaDoorRKeys2
import Derived.Test.YtnafegofmbhahaaDoorRStore2
import Derived.Test.YtnafegofmbhahaaDoorQuietT
import Derived.Deep.CutRange
import Derived.Deep.RegionWith
import Derived.BigQuiet
import Derived.BigRegion
namespace Go.Proofs.YtnafegofmbhahaaDoor
open Go.RowKit Go.WideShapes
set_option linter.unusedVariables false
attribute [local go_sem ↓] Go.wp_at_zero Go.wp_at_succ

theorem usedOf_step {es : List Pr} {m : Nat} {q : Pr} {i : Nat} (h : es[m]? = some q) : usedOf (es.take (m + 1)) i = (usedOf (es.take m) i || (plcN q.key == i)) := by
  obtain ⟨hj, rfl⟩ := List.getElem?_eq_some_iff.1 h
  rw [List.take_succ_eq_append_getElem hj, usedOf_snoc]
theorem usedOf_hit {es : List Pr} {m j : Nat} {q : Pr} {i : Nat} (h : es[m]? = some q) (hm : m < j) (hi : plcN q.key = i) : usedOf (es.take j) i = true := by
  subst hi
  refine usedOf_mem ?_
  obtain ⟨hj, rfl⟩ := List.getElem?_eq_some_iff.1 h
  exact List.mem_take_iff_getElem.2 ⟨m, by omega, rfl⟩

theorem bl_le (a b : List UInt8) : (Op.bytesLess a b || a == b) = !(Op.bytesLess b a) := by
  cases h : Op.bytesLess b a
  · rcases bl_total h with e | e
    · subst e; simp
    · rw [e]; rfl
  · have h1 : Op.bytesLess a b = false := by
      cases h2 : Op.bytesLess a b
      · rfl
      · have := bl_trans h h2; rw [bl_irrefl] at this; cases this
    have h3 : (a == b) = false := by
      rw [beq_eq_false_iff_ne]
      rintro rfl
      rw [bl_irrefl] at h; cases h
    rw [h1, h3]; rfl
theorem quiet_same {P : Program} {f : FuncId} {args : Array Value} {w : World} {n : Nat} {v : Value}
    (h : Calls P f args (w.drewN n) fun e w' => e = .returned v ∧ w.drewN n = w') : Calls P f args (w.drewN n) fun e w'' => e = .returned v ∧ ∃ m, w'' = w.drewN m :=
  h.mono fun _ _ ⟨he, hm⟩ => ⟨he, n, hm.symm⟩

set_option maxRecDepth 100000 in
set_option maxHeartbeats 10000000 in
theorem RRows_any (A : Option Addr) (n c : Nat) (es : List Pr) (w : World) (hr : Rd w 3 A n c (es.flatMap Pr.cells)) (hm : c ≤ maxLen) :
    Calls Tryd.prog 24 #[.slice A n c] w fun e w' => ((treeK es ≠ 0 ∧ e = .returned (.tuple #[.slice none 0 0, .int .i64 (treeK es)])) ∨ (treeK es = 0 ∧ ∃ v, e = .returned (.tuple #[v, .int .i64 0]) ∧ RowsAt w' w.heap.size v es)) ∧ Ext w w' := by
  have hx := hr.lenP
  have HX := Lib.hid hx
  have hl := hr.2.1
  have hms : c ≤ 9223372036854775807 := by unfold maxLen at hm; omega
  by_cases hn : 60 < n
  · have HK : Hid (treeK es = 4) := by show _ = _; unfold treeK; rw [if_pos (by omega)]
    clear hx
    go_enter Tryd.func24, Tryd.ntmps24
    go_wp2_with fail
    go_ret2
    exact ⟨.inl ⟨by rw [HK.out]; decide, by rw [HK.out]; rfl⟩, Ext.refl _⟩
  obtain ⟨k, HK⟩ : ∃ k, Hid (treeGo [] es = k) := ⟨_, rfl⟩
  have HT : Hid (treeK es = k) := by show _ = _; unfold treeK; rw [if_neg (by omega)]; exact HK.out
  rw [HT.out]
  have hn60 : n ≤ 60 := by omega
  clear hx hn
  have hmk : ∀ W : World, (Instr.makeSlice 46 (.int .i64 256) (.int .i64 256)).run Tryd.prog W = .ok (.slice (some ⟨W.heap.size, 0, none⟩) 256 256) (W.alloc (.cells (madeCells #[.int .i64 0] 256) 3)) := run_make_row' (P := Tryd.prog) 46 3 (.int .i64 0) 8 Tryd.underlying46 info_int3 rfl .i64 .i64 256 (by omega) (by omega)
  obtain ⟨z0, HZ0⟩ : ∃ k, Hid (leE = k) := ⟨_, rfl⟩
  have r0 := World.rowIs_made w (.int .i64 0) 256 3
  have e0 : Ext w (w.alloc (.cells (madeCells #[.int .i64 0] 256) 3)) := by (repeat (with_reducible first | exact Ext.refl _ | assumption | refine Ext.drew ?_ | refine Ext.drewN ?_ _ | refine Ext.alloc ?_ _ | refine Ext.trans ?_ (by with_reducible assumption)))
  generalize madeCells #[.int .i64 0] 256 = row0 at *
  go_enter Tryd.func24, Tryd.ntmps24
  go_wp2_with fail
  generalize hW0 : w.alloc (.cells row0 3) = W0 at *
  clear hW0
  refine (RLeaf_any ⟨#[]⟩ _ (by decide)).mono ?_
  have HLE : Hid (leafL (⟨#[]⟩ : ByteArray).data.toList = z0) := HZ0.out
  rw [HLE.out]
  rintro _ w1 ⟨rfl, hb1⟩
  have r1 := r0.of_block (hb1.block w.heap.size r0.lt)
  have e1 := e0.trans hb1
  clear r0 e0 hmk HLE
  go_wp2_with fail
  go_loopw [6] (fun x wr => ∃ j : Nat, x = .int .i64 j ∧ j ≤ 256 ∧ Ext w wr ∧ Hid (wr.rowIs w.heap.size 3 256 (fun i => .int .i64 (if i < j then z0 else 0)))) (fun x _ => 256 - (intOf x).toNat)
  case atStart => exact ⟨0, rfl, Nat.zero_le _, e1, r1⟩
  case round =>
    obtain ⟨j, rfl, hj, hbw, hrow⟩ := hrel
    by_cases hc : j < 256
    · have c0 := hrow.out.cell hc
      have f0 := hrow.out.frozen j
      go_wp2_with fail
      go_roundw
      case rel => exact ⟨j + 1, by go_num, by omega, hbw.setCell (by simp) _, (hrow.out.set j _).congr (fun i hi => by
        by_cases h1 : i = j
        · subst h1; simp
        · rw [if_neg h1]
          by_cases h2 : i < j
          · rw [if_pos h2, if_pos (by omega)]
          · rw [if_neg h2, if_neg (by omega)])⟩
      case measure => simp [intOf]; omega
    · obtain rfl : j = 256 := by omega
      have r2 : wr.rowIs w.heap.size 3 256 (fun i => .int .i64 (rowOf [] i)) := hrow.out.congr (fun i hi => by rw [if_pos hi, rowOf_nil, HZ0.out])
      clear hrow r1 e1
      rw [show ((256 : Nat) : Int) = 256 from rfl]
      obtain ⟨W2, HW2⟩ : ∃ W, W = wr := ⟨_, rfl⟩
      rw [← HW2] at hbw r2 ⊢
      clear HW2
      go_wp2_with fail
      go_loopw [7, 8, 9] (fun x _ _ wr => ∃ j : Nat, x = .int .i64 j ∧ j ≤ n ∧ Ext w wr ∧ Hid (wr.rowIs w.heap.size 3 256 (fun i => .int .i64 (rowOf (es.take j) i)) ∧ (∀ i q, i < j → es[i]? = some q → q.key.size ≤ 200)) ∧ Hid (treeGo (es.take j) (es.drop j) = k)) (fun x _ _ _ => n - (intOf x).toNat)
      case atStart => exact ⟨0, rfl, Nat.zero_le _, hbw, ⟨r2, fun i q hi => absurd hi (by omega)⟩, HK.out⟩
      case round =>
        obtain ⟨j, rfl, hj, hbw, hin, hgo⟩ := hrel
        by_cases hc : j < n
        · have hgj := List.getElem?_eq_getElem (l := es) (i := j) (by rw [HX.out]; exact hc)
          obtain ⟨ad, rfl, hb, c0, c1, c2⟩ := (hr.ext hbw).getP hgj
          have HG := Lib.hid hgj
          have hst := treeGo_step hgj
          rw [hgo.out] at hst
          have HST := Lib.hid hst
          generalize es[j]'(by rw [HX.out]; exact hc) = p at *
          obtain ⟨pk, pv, pg⟩ := p
          clear hgj hst r2
          have hR := hr.ext hbw
          go_wp2_with fail
          refine (RSKey_any pk _).mono ?_
          obtain ⟨kk, HKK⟩ : ∃ x, Hid (keyK pk = x) := ⟨_, rfl⟩
          rw [HKK.out]
          rintro _ _ ⟨rfl, rfl⟩
          by_cases hk0 : kk = 0
          · have hk00 : keyK pk = 0 := HKK.out.trans hk0
            obtain ⟨q1, q2⟩ := keyK_zero.1 hk00
            have HK0 := Lib.hid hk00
            subst hk0
            clear hk00
            by_cases h2 : 200 < pv.size
            · have hk : k = 4 := by
                have h3 := HST.out
                have h4 : pairK (es.take j) ⟨pk, pv, pg⟩ = 4 := by unfold pairK; rw [if_neg (not_not_intro HK0.out), if_pos h2]
                rw [h4, if_pos (by decide)] at h3
                exact h3
              subst hk
              go_wp2_with fail
              go_ret2
              exact ⟨.inl ⟨by decide, rfl⟩, by (repeat (with_reducible first | exact Ext.refl _ | assumption | refine Ext.drew ?_ | refine Ext.drewN ?_ _ | refine Ext.alloc ?_ _ | refine Ext.trans ?_ (by with_reducible assumption)))⟩
            · cases pg
              · obtain ⟨ob, HOB⟩ : ∃ x, Hid (ordB (es.take j) ⟨pk, pv, false⟩ = x) := ⟨_, rfl⟩
                go_upto_region 19 with (fail)
                go_cut [69] from 27 to 106 (fun v wc => v = .bool ob ∧ Ext wr wc)
                case first =>
                  as_aux_lemma =>
                  by_cases hj0 : j = 0
                  · subst hj0
                    have hob : ob = false := by rw [← HOB.out]; rfl
                    subst hob
                    clear HOB
                    go_region
                    go_wp2_with fail
                    go_meet
                    exact ⟨rfl, by (repeat (with_reducible first | exact Ext.refl _ | assumption | refine Ext.drew ?_ | refine Ext.drewN ?_ _ | refine Ext.alloc ?_ _ | refine Ext.trans ?_ (by with_reducible assumption)))⟩
                  · have hgm := List.getElem?_eq_getElem (l := es) (i := j - 1) (by rw [HX.out]; omega)
                    obtain ⟨ad', e, hb', y0, -, -⟩ := hR.getP hgm
                    obtain rfl : ad = ad' := by injection e
                    have hob : ob = !(Op.bytesLess (es[j - 1]'(by rw [HX.out]; omega)).key.toList pk.toList) := by
                      rw [← HOB.out]
                      unfold ordB
                      have h5 : es.take j = es.take (j - 1) ++ [es[j - 1]'(by rw [HX.out]; omega)] := by
                        rw [← List.take_succ_eq_append_getElem, Nat.sub_add_cancel (by omega)]
                      rw [h5, List.getLast?_append]
                      rfl
                    generalize (es[j - 1]'(by rw [HX.out]; omega)).key = qk at *
                    obtain ⟨lb, HLB⟩ : ∃ x, Op.bytesLess qk.toList pk.toList = x := ⟨_, rfl⟩
                    rw [HLB] at hob
                    have k1 : IntKind.i64.wrap ((j : Int) - 1) = (j : Int) - 1 := IntWalk.i64_in _ (by omega)
                    have k2 : ((j : Int) - 1).toNat = j - 1 := by omega
                    have k3 : 0 ≤ (j : Int) - 1 := by omega
                    have k5 : (j : Int) - 1 < (n : Int) := by omega
                    have k6 : 0 < (j : Int) := by omega
                    have k7 : j - 1 < n := by omega
                    have k8 : 0 < j := by omega
                    have k9 : decide ((0 : Int) < (j : Int)) = true := decide_eq_true k6
                    clear HOB hgm e HST HG hgo hj0 hin
                    cases lb
                    · subst hob
                      go_region
                      go_wp2_with fail
                      go_meet
                      exact ⟨congrArg Value.bool ((bl_le _ _).trans (by rw [HLB])), by (repeat (with_reducible first | exact Ext.refl _ | assumption | refine Ext.drew ?_ | refine Ext.drewN ?_ _ | refine Ext.alloc ?_ _ | refine Ext.trans ?_ (by with_reducible assumption)))⟩
                    · subst hob
                      go_region
                      go_wp2_with fail
                      go_meet
                      exact ⟨congrArg Value.bool ((bl_le _ _).trans (by rw [HLB])), by (repeat (with_reducible first | exact Ext.refl _ | assumption | refine Ext.drew ?_ | refine Ext.drewN ?_ _ | refine Ext.alloc ?_ _ | refine Ext.trans ?_ (by with_reducible assumption)))⟩
                case rest =>
                as_aux_lemma =>
                obtain ⟨rfl, hb3⟩ := hcut
                have hbw3 := hbw.trans hb3
                cases ob
                · obtain ⟨pl, HPL⟩ : ∃ x, Hid (plcN pk = x) := ⟨_, rfl⟩
                  have hpl : pl < 256 := by rw [← HPL.out]; exact plcN_lt pk
                  have hsp : ∀ W, Calls Tryd.prog 75 #[.string pk] W fun e w' => e = .returned (.int .i64 (pl : Nat)) ∧ W = w' := by
                    intro W
                    have := RSpot_any pk W (by unfold maxLen; omega)
                    rwa [HPL.out] at this
                  have HSP := Lib.hid hsp
                  clear hsp
                  go_upto_region 21 with (fail)
                  go_wp2_with fail
                  go_loopw [9] (fun x wr2 => ∃ m : Nat, x = .int .i64 m ∧ m ≤ j ∧ Ext wc wr2 ∧ Hid (usedOf (es.take m) pl = false)) (fun x _ => j - (intOf x).toNat)
                  case atStart => exact ⟨0, rfl, Nat.zero_le _, Ext.refl _, rfl⟩
                  case round =>
                    obtain ⟨m, rfl, hmj, hb4, hus⟩ := hrel
                    have hbw4 := hbw3.trans hb4
                    by_cases hcm : m < j
                    · have hgm := List.getElem?_eq_getElem (l := es) (i := m) (by rw [HX.out]; omega)
                      have hqs := hin.out.2 m _ hcm hgm
                      obtain ⟨ad', e, hb', y0, -, -⟩ := (hr.ext hbw4).getP hgm
                      obtain rfl : ad = ad' := by injection e
                      obtain ⟨ad', e', hb'', x0, -, -⟩ := (hr.ext hbw4).getP HG.out
                      obtain rfl : ad = ad' := by injection e'
                      have HGM := Lib.hid hgm
                      generalize es[m]'(by rw [HX.out]; omega) = q at *
                      obtain ⟨qk, qv, qg⟩ := q
                      obtain ⟨ql, HQL⟩ : ∃ x, Hid (plcN qk = x) := ⟨_, rfl⟩
                      have hsq : ∀ W, Calls Tryd.prog 75 #[.string qk] W fun e w' => e = .returned (.int .i64 (ql : Nat)) ∧ W = w' := by
                        intro W
                        have := RSpot_any qk W (by have h9 : qk.size ≤ 200 := hqs; unfold maxLen; omega)
                        rwa [HQL.out] at this
                      have HSQ := Lib.hid hsq
                      have hmn : m < n := by omega
                      clear hsq hgm hqs e e' hb' hb'' c0 c1 c2
                      by_cases he : ql = pl
                      · have hk : k = 7 := by
                          have h3 := HST.out
                          have h4 : pairK (es.take j) ⟨pk, pv, false⟩ = 7 := by
                            unfold pairK
                            rw [if_neg (not_not_intro HK0.out), if_neg h2, if_neg Bool.false_ne_true]
                            show (if (ordB (es.take j) ⟨pk, pv, false⟩ || usedOf (es.take j) (plcN pk)) = true then (7 : Int) else 0) = _
                            rw [HOB.out, HPL.out, usedOf_hit HGM.out hcm (HQL.out.trans he)]
                            rfl
                          rw [h4, if_pos (by decide)] at h3
                          exact h3
                        subst hk
                        subst he
                        go_wp2_with fail
                        go_quiet (first | (go_at_call 75; exact quiet_same (HSQ.out _)) | (go_at_call 75; exact quiet_same (HSP.out _)))
                        go_wp2_with fail
                        go_ret2
                        exact ⟨.inl ⟨by decide, rfl⟩, by (repeat (with_reducible first | exact Ext.refl _ | assumption | refine Ext.drew ?_ | refine Ext.drewN ?_ _ | refine Ext.alloc ?_ _ | refine Ext.trans ?_ (by with_reducible assumption)))⟩
                      · have hne : ((ql : Int) == (pl : Int)) = false := by
                          rw [beq_eq_false_iff_ne]; omega
                        have HU : Hid (usedOf (es.take (m + 1)) pl = false) := by
                          show _ = _
                          rw [usedOf_step HGM.out, hus.out]
                          show (false || (plcN qk == pl)) = false
                          rw [HQL.out, Bool.false_or, beq_eq_false_iff_ne]
                          exact he
                        clear he
                        go_wp2_with fail
                        go_quiet (first | (go_at_call 75; exact quiet_same (HSQ.out _)) | (go_at_call 75; exact quiet_same (HSP.out _)))
                        go_wp2_with fail
                        go_roundw
                        case rel => exact ⟨m + 1, by go_num, by omega, by (repeat (with_reducible first | exact Ext.refl _ | assumption | refine Ext.drew ?_ | refine Ext.drewN ?_ _ | refine Ext.alloc ?_ _ | refine Ext.trans ?_ (by with_reducible assumption))), HU⟩
                        case measure => simp [intOf]; omega
                    · obtain rfl : m = j := by omega
                      have hub := hus.out
                      have HUB := Lib.hid hus.out
                      have hpk0 : pairK (es.take m) ⟨pk, pv, false⟩ = 0 := by
                        unfold pairK
                        rw [if_neg (not_not_intro HK0.out), if_neg h2, if_neg Bool.false_ne_true]
                        show (if (ordB (es.take m) ⟨pk, pv, false⟩ || usedOf (es.take m) (plcN pk)) = true then (7 : Int) else 0) = _
                        rw [HOB.out, HPL.out, hub]
                        rfl
                      have HST2 : Hid (k = treeGo (es.take (m + 1)) (es.drop (m + 1))) := by
                        have h3 := HST.out
                        rw [hpk0, if_neg (by decide)] at h3
                        exact h3
                      obtain ⟨ad', e', hb'', x0, x1, -⟩ := (hr.ext hbw4).getP HG.out
                      obtain rfl : ad = ad' := by injection e'
                      have r4 := hin.out.1.of_block ((hb3.trans hb4).block w.heap.size hin.out.1.lt)
                      have y0 := r4.cell hpl
                      have f0 := r4.frozen pl
                      obtain ⟨kl, HKL⟩ : ∃ x, Hid (kleaf pk pv = x) := ⟨_, rfl⟩
                      have hpc : ∀ W, Calls Tryd.prog 35 #[.string pk, .string pv] W fun e w' => e = .returned (.int .i64 kl) ∧ Ext W w' := by
                        intro W
                        have := RPlaced_any pk pv W q2 (by omega)
                        rwa [HKL.out] at this
                      have HPC := Lib.hid hpc
                      have hbl := r4.lt
                      have hb7 : (ad.add (m * 3)).block < wr.heap.size := by unfold Addr.add; split <;> exact hb''
                      have X0 := Lib.hid x0
                      have X1 := Lib.hid x1
                      have Y0 := Lib.hid y0
                      have F0 := Lib.hid f0
                      have hw0 : ∀ x : WE wr, x.W.cell? (ad.add (m * 3)) = some (.string pk) := fun x => (Ext.cell (p := ad.add (m * 3)) x.h hb7).trans X0.out
                      have hw1 : ∀ x : WE wr, x.W.cell? ⟨(ad.add (m * 3)).block, (ad.add (m * 3)).off + 1, none⟩ = some (.string pv) := fun x => (Ext.cell (p := ⟨(ad.add (m * 3)).block, (ad.add (m * 3)).off + 1, none⟩) x.h hb7).trans X1.out
                      clear x0 x1 y0 f0 hpc hpk0 hub
                      go_wp2_with fail
                      (refine wp_region_ext_tail (w0 := wr) 19 (by kernel_rfl) (by kernel_rfl) (by (repeat (with_reducible first | exact Ext.refl _ | assumption | refine Ext.drew ?_ | refine Ext.drewN ?_ _ | refine Ext.alloc ?_ _ | refine Ext.trans ?_ (by with_reducible assumption)))) ?_; simp only [List.take_succ_cons, List.take_zero, List.drop_succ_cons, List.drop_zero]; (repeat (go_big_quiet_step ((first
                        | (go_at_call 75; exact quietS (HSP.out _))
                        | (go_at_call 35; exact quietE (HPC.out _)))))); refine wpQuiet_nil ?_)
                      rintro _ ⟨xq, rfl⟩
                      obtain ⟨w6, hw6⟩ : ∃ w, xq.W = w := ⟨_, rfl⟩
                      have hb8 : Ext wr w6 := by rw [← hw6]; exact xq.h
                      rw [hw6]
                      clear hw6 hw0 hw1
                      have n2 := (hb8.cell (p := ⟨w.heap.size, pl, none⟩) hbl).trans Y0.out
                      have n3 := (hb8.frozen (p := ⟨w.heap.size, pl, none⟩) hbl).trans F0.out
                      go_wp2_with fail
                      go_roundw
                      case rel => exact ⟨m + 1, by go_num, by omega, (hbw4.trans hb8).setCell (by simp) _, ⟨((r4.of_block (hb8.block w.heap.size hbl)).set pl _).congr (fun t ht => by
                        have hts : es.take (m + 1) = es.take m ++ [⟨pk, pv, false⟩] := by
                          obtain ⟨hj', hge⟩ := List.getElem?_eq_some_iff.1 HG.out
                          rw [List.take_succ_eq_append_getElem hj', hge]
                        have hfree : usedOf (es.take m) (plcN (⟨pk, pv, false⟩ : Pr).key) = false := by
                          show usedOf (es.take m) (plcN pk) = false
                          rw [HPL.out]; exact HUB.out
                        show _ = Value.int .i64 (rowOf (es.take (m + 1)) t)
                        rw [hts, rowOf_snoc hfree t]
                        show _ = Value.int .i64 (if t = plcN pk then kleaf pk pv else rowOf (es.take m) t)
                        rw [HPL.out, HKL.out]
                        by_cases h5 : t = pl
                        · rw [if_pos h5, if_pos h5]
                        · rw [if_neg h5, if_neg h5]), fun i q hi hq => by
                          by_cases h5 : i < m
                          · exact hin.out.2 i q h5 hq
                          · obtain rfl : i = m := by omega
                            rw [HG.out] at hq
                            injection hq with hq
                            subst hq
                            exact q2⟩, HST2.out.symm⟩
                      case measure => simp [intOf]; omega
                · have hk : k = 7 := by
                    have h3 := HST.out
                    have h4 : pairK (es.take j) ⟨pk, pv, false⟩ = 7 := by
                      unfold pairK
                      rw [if_neg (not_not_intro HK0.out), if_neg h2, if_neg Bool.false_ne_true]
                      show (if (ordB (es.take j) ⟨pk, pv, false⟩ || usedOf (es.take j) (plcN pk)) = true then (7 : Int) else 0) = _
                      rw [HOB.out]
                      rfl
                    rw [h4, if_pos (by decide)] at h3
                    exact h3
                  subst hk
                  go_wp2_with fail
                  go_ret2
                  exact ⟨.inl ⟨by decide, rfl⟩, by (repeat (with_reducible first | exact Ext.refl _ | assumption | refine Ext.drew ?_ | refine Ext.drewN ?_ _ | refine Ext.alloc ?_ _ | refine Ext.trans ?_ (by with_reducible assumption)))⟩
              · have hk : k = 3 := by
                  have h3 := HST.out
                  have h4 : pairK (es.take j) ⟨pk, pv, true⟩ = 3 := by unfold pairK; rw [if_neg (not_not_intro HK0.out), if_neg h2, if_pos rfl]
                  rw [h4, if_pos (by decide)] at h3
                  exact h3
                subst hk
                go_wp2_with fail
                go_ret2
                exact ⟨.inl ⟨by decide, rfl⟩, by (repeat (with_reducible first | exact Ext.refl _ | assumption | refine Ext.drew ?_ | refine Ext.drewN ?_ _ | refine Ext.alloc ?_ _ | refine Ext.trans ?_ (by with_reducible assumption)))⟩
          · have hk : k = kk := by
              have h3 := HST.out
              have h4 : pairK (es.take j) ⟨pk, pv, pg⟩ = kk := by unfold pairK; rw [HKK.out, if_pos hk0]
              rw [h4, if_pos hk0] at h3
              exact h3
            have HK0 := Lib.hid hk0
            have hne : (kk != 0) = true := by simp [hk0]
            subst hk
            clear hk0
            go_wp2_with fail
            go_ret2
            exact ⟨.inl ⟨HK0.out, rfl⟩, by (repeat (with_reducible first | exact Ext.refl _ | assumption | refine Ext.drew ?_ | refine Ext.drewN ?_ _ | refine Ext.alloc ?_ _ | refine Ext.trans ?_ (by with_reducible assumption)))⟩
        · obtain rfl : j = n := by omega
          have hk : k = 0 := by
            rw [← hgo.out, List.drop_of_length_le (by rw [HX.out]; omega)]; rfl
          subst hk
          have htk : es.take j = es := List.take_of_length_le (by rw [HX.out]; omega)
          have r3 := hin.out.1
          rw [htk] at r3
          have i3 : IRow wr w.heap.size 256 (rowF es 0) := IRow.of_row r3
          clear htk hin hgo HK r2 r3
          obtain ⟨i1, hi1, hz1, hz2, hz3⟩ := info_parts info_rowT
          obtain ⟨i0, hi0, hy0', hy1, hy2⟩ := info_parts info_int'
          have i4 := i3.ext ((Ext.refl wr).alloc (.cells #[.slice (some ⟨w.heap.size, 0, none⟩) 256 256] 46))
          have o4 := World.ownsRow_lit (base := w.heap.size) (e := 46) (size := 1) wr #[.slice (some ⟨w.heap.size, 0, none⟩) 256 256] 1 hbw.size (by simp only [maxLen]; omega) rfl
          have e4 : Ext w (wr.alloc (.cells #[.slice (some ⟨w.heap.size, 0, none⟩) 256 256] 46)) := hbw.alloc _
          go_wp2_with fail
          generalize wr.alloc (.cells #[.slice (some ⟨w.heap.size, 0, none⟩) 256 256] 46) = W4 at *
          generalize (Value.slice (some ⟨wr.heap.size, 0, none⟩) 1 1) = v4 at *
          clear i3 hbw
          go_loopw [4, 10, 11, 12, 13] (fun x y _ _ _ wr => ∃ (k : Nat) (gb cb : Nat → Nat), k ≤ 8 ∧ x = .slice (some ⟨gb k, 0, none⟩) (2 ^ (8 - k)) (cb k) ∧ Ext w wr ∧ Hid (wr.ownsRow w.heap.size 46 1 y (k + 1) (outC gb cb (k + 1))) ∧ Hid (∀ i, i ≤ k → IRow wr (gb i) (2 ^ (8 - i)) (rowF es i))) (fun x _ _ _ _ _ => lenS x)
          case atStart => exact ⟨0, fun _ => w.heap.size, fun _ => 256, by omega, rfl, e4, o4, fun i hi => by have h0 := Nat.le_zero.1 hi; subst h0; exact i4⟩
          case round =>
            obtain ⟨k, gb, cb, hk8, rfl, hbw, hown, hrows⟩ := hrel
            by_cases hc : k < 8
            · have hp : 2 ^ (8 - k) = 2 * 2 ^ (8 - (k + 1)) := by
                rw [show 8 - k = (8 - (k + 1)) + 1 by omega, Nat.pow_succ, Nat.mul_comm]
              have hb1 : 1 ≤ 2 ^ (8 - (k + 1)) := Nat.pos_of_ne_zero (by simp)
              have hb2 : 2 ^ (8 - (k + 1)) ≤ 2 ^ 7 := Nat.pow_le_pow_right (by omega) (by omega)
              obtain ⟨h, HH⟩ : ∃ h, 2 ^ (8 - (k + 1)) = h := ⟨_, rfl⟩
              have rk := hrows.out k (Nat.le_refl _)
              rw [HH] at hp hb1 hb2
              rw [hp] at rk
              rw [hp]
              have hb3 : h ≤ 128 := hb2
              have HP := Lib.hid hp
              have HHH := Lib.hid HH
              have q1 : (1 : Int) < 2 * (h : Int) := by omega
              have q2 : 1 < 2 * h := by omega
              clear hp HH hb2
              obtain ⟨WR, rfl⟩ : ∃ W, W = wr := ⟨_, rfl⟩
              go_wp2_with fail
              obtain ⟨F, HF⟩ : ∃ F : Nat → Int, Hid (∀ i, rowF es k i = F i) := ⟨fun i => rowF es k i, Lib.hid (fun _ => rfl)⟩
              obtain ⟨G, HG⟩ : ∃ G : Nat → Int, Hid (∀ i, rowF es (k + 1) i = G i) := ⟨fun i => rowF es (k + 1) i, Lib.hid (fun _ => rfl)⟩
              have hFG : Hid (∀ i, nodeL (F (2 * i)) (F (2 * i + 1)) = G i) := Lib.hid fun i => by rw [← HF.out, ← HF.out, ← HG.out]; rfl
              have hF0 : Hid (∀ i, vld (F i) = true) := Lib.hid fun i => by rw [← HF.out]; exact vld_mk (rowF_bd es k i)
              have rkF : IRow WR (gb k) (2 * h) F := by
                obtain ⟨cs, h1, h2⟩ := rk
                exact ⟨cs, h1, fun i hi => by rw [h2 i hi, HF.out]⟩
              obtain ⟨hh, HHH2⟩ : ∃ hh, Hid (2 * h = hh) := ⟨_, rfl⟩
              rw [HHH2.out] at rkF
              rw [HHH2.out]
              have q3 : hh ≤ 256 := by rw [← HHH2.out]; omega
              clear q1 q2 rk
              go_loopw [11, 12, 13] (fun y x _ wr => ∃ i m : Nat, x = .int .i64 (m : Nat) ∧ Hid (m = 2 * i) ∧ i ≤ h ∧ Ext WR wr ∧ Hid (wr.ownsRow WR.heap.size 3 1 y i ((List.range i).map fun t => .int .i64 (G t)))) (fun _ x _ _ => 2 * h - (intOf x).toNat)
              case atStart => exact ⟨0, 0, rfl, rfl, Nat.zero_le _, Ext.refl _, own_nil _ _ _ _⟩
              case round =>
                obtain ⟨i, m, rfl, hm2, hi, hb5, hrow⟩ := hrel
                by_cases hc2 : i < h
                · have hmh : m + 1 < hh := by rw [hm2.out, ← HHH2.out]; omega
                  have hmh2 : m < hh := by omega
                  have hmi : (m : Int) < (hh : Int) := by omega
                  have hmi2 : (m : Int) + 1 < (hh : Int) := by omega
                  have p1 : IntKind.i64.wrap ((m : Int) + 1) = (m : Int) + 1 := IntWalk.i64_in _ (by omega)
                  have rk5 := rkF.ext hb5
                  have c0 := rk5.cell (i := m) (by omega)
                  have c1 := rk5.cell (i := m + 1) (by omega)
                  have HGG : Hid (nodeL (F m) (F (m + 1)) = G i) := by rw [hm2.out]; exact hFG.out i
                  have hx0 := hF0.out m
                  have hy0 := hF0.out (m + 1)
                  obtain ⟨x, hx⟩ : ∃ x, F m = x := ⟨_, rfl⟩
                  obtain ⟨y, hy⟩ : ∃ x, F (m + 1) = x := ⟨_, rfl⟩
                  rw [hx] at c0 hx0 HGG
                  rw [hy] at c1 hy0 HGG
                  have HOS : Hid ((List.range (i + 1)).map (fun t => Value.int .i64 (G t)) = (List.range i).map (fun t => Value.int .i64 (G t)) ++ [.int .i64 (nodeL x y)]) := by
                    show _ = _
                    rw [List.range_succ, List.map_append, HGG.out]; rfl
                  have HO := Lib.hid hrow.out
                  have hgl := rk5.lt
                  have hw0 : ∀ z : WE wr, z.W.cell? ⟨gb k, m, none⟩ = some (.int .i64 x) := fun z => (Ext.cell (p := ⟨gb k, m, none⟩) z.h hgl).trans c0
                  have hw1 : ∀ z : WE wr, z.W.cell? ⟨gb k, m + 1, none⟩ = some (.int .i64 y) := fun z => (Ext.cell (p := ⟨gb k, m + 1, none⟩) z.h hgl).trans c1
                  have HND := Lib.hid (fun W => RNode_any x y W hx0 hy0)
                  clear hx hy hrow rk5 c0 c1 hx0 hy0
                  go_wp2_with fail
                  (refine wp_region_ext (w0 := wr) (by kernel_rfl) (by kernel_rfl) (by (repeat (with_reducible first | exact Ext.refl _ | assumption | refine Ext.drew ?_ | refine Ext.drewN ?_ _ | refine Ext.alloc ?_ _ | refine Ext.trans ?_ (by with_reducible assumption)))) ?_; (repeat (go_big_quiet_step ((go_at_call 76; exact quietE (HND.out _))))); refine wpQuiet_nil ?_)
                  intro w6 hb8
                  have own6 := own_ext HO.out hb8
                  have hb9 := hb5.trans hb8
                  have hbs9 := hb9.size
                  clear hw0 hw1
                  go_wp2_with (at_builtin; refine wpl_app (by rfl) _ _ _ (by rfl) WR.heap.size 3 i0 _ 1 8 Tryd.underlying46 hi0 hy0' hy1 hy2 rfl (by omega) u11 _ _ (by rfl) (own6.alloc _) w6.heap.size 1 [.int .i64 (nodeL x y)] rfl (by rfl) (news_new w6 _ _ _ rfl) (oneN _) (by omega) (by omega) (by simp; omega) ?_; intro g5 cap w7 own7 hext7)
                  go_roundw
                  case rel => exact ⟨i + 1, m + 2, by go_num, by show _ = _; rw [hm2.out]; omega, by omega, hext7 WR (Nat.le_refl _) (hb9.alloc _), by rw [HOS.out]; exact own7⟩
                  case measure => simp [intOf]; rw [HHH2.out]; omega
                · obtain rfl : i = h := by omega
                  have hmi : ¬ (m : Int) < (hh : Int) := by rw [hm2.out, ← HHH2.out]; omega
                  obtain ⟨A1, cc, rfl, hcc, hRd, hnil⟩ := own_rd hrow.out
                  obtain ⟨g1, rfl⟩ : ∃ g1, A1 = some ⟨g1, 0, none⟩ := by
                    rcases hrow.out.2 with ⟨h0, _⟩ | ⟨g', cap, cur, e, _⟩
                    · injection h0 with e1 e2; omega
                    · injection e with e1 e2 e3; exact ⟨g', e1⟩
                  have rG : IRow wr g1 i (rowF es (k + 1)) := IRow.of_own hrow.out (by refine List.map_congr_left fun t ht => ?_; rw [HG.out])
                  have own5 := own_ext hown.out hb5
                  have hbw5 := hbw.trans hb5
                  have hs5 := hbw5.size
                  have hrows5 : ∀ t, t ≤ k → IRow wr (gb t) (2 ^ (8 - t)) (rowF es t) := fun t ht => (hrows.out t ht).ext hb5
                  have HR5 := Lib.hid hrows5
                  have HRG := Lib.hid rG
                  clear hrow hrows5 rG hRd hnil
                  go_wp2_with (at_builtin; refine wpl_apps (by rfl) _ _ _ (by rfl) w.heap.size 46 i1 _ 1 24 Tryd.underlying47 hi1 hz1 hz2 hz3 rfl (by omega) u10 _ _ (by rfl) (own5.alloc _) ⟨wr.heap.size, 0, none⟩ 1 1 [.slice (some ⟨g1, 0, none⟩) i cc] (by rfl) rfl (news_new wr _ _ _ rfl) (by intro u hu; simp at hu; subst hu; rfl) (by omega) (by omega) (by omega) (by simp; omega) ?_; intro g cap w6 own6 hg6 hH6 hlt6)
                  go_roundw
                  case rel =>
                    obtain ⟨gb', hup, hup1⟩ : ∃ gb' : Nat → Nat, (∀ t, t ≤ k → gb' t = gb t) ∧ gb' (k + 1) = g1 := ⟨fun t => if t = k + 1 then g1 else gb t, fun t ht => if_neg (by omega), if_pos rfl⟩
                    obtain ⟨cb', hcp, hcp1⟩ : ∃ gb' : Nat → Nat, (∀ t, t ≤ k → gb' t = cb t) ∧ gb' (k + 1) = cc := ⟨fun t => if t = k + 1 then cc else cb t, fun t ht => if_neg (by omega), if_pos rfl⟩
                    refine ⟨k + 1, gb', cb', by omega, ?_, (hbw5.alloc _).grown hg6 (fun q hq => ?_), ?_, ?_⟩
                    · rw [hup1, hcp1, HHH.out]
                    · exact own_block own5 q hq
                    · show w6.ownsRow _ _ _ _ _ _
                      rw [outC_snoc, hup1, hcp1, HHH.out, outC_congr (gb' := gb) (cb' := cb) (fun t ht => hup t (by omega)) (fun t ht => hcp t (by omega))]
                      exact own6
                    · intro t ht
                      by_cases h1 : t = k + 1
                      · subst h1
                        rw [hup1, HHH.out]
                        exact (HRG.out.ext ((Ext.refl wr).alloc _)).kept (own5.alloc _) (by decide) hg6
                      · have hr5 := HR5.out t (by omega)
                        rw [hup t (by omega)]
                        exact (hr5.ext ((Ext.refl wr).alloc _)).kept (own5.alloc _) (by decide) hg6
                  case measure => show i < 2 * i; omega
            · obtain rfl : k = 8 := by omega
              go_wp2_with fail
              go_ret2
              exact ⟨⟨_, rfl, gb, cb, hown.out, hrows.out⟩, hbw⟩
end Go.Proofs.YtnafegofmbhahaaDoor
