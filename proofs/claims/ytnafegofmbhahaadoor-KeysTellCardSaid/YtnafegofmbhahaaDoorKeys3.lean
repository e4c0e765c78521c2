/- Keys: the tree of places, walked. -/
import Derived.Test.YtnafegofmbhahaaDoorKeys2
import Derived.Deep.DeepCutAuto
import Derived.Deep.CutBlock
import Derived.Deep.CutRange
import Derived.Deep.RegionWith
import Derived.Deep.DeepBigQuietO
namespace Go.Proofs.YtnafegofmbhahaaDoor
open Go.RowKit
set_option linter.unusedVariables false
attribute [local go_sem ↓] Go.wp_at_zero Go.wp_at_succ

theorem info_int3 : (Tryd.prog.info? 3).map (fun i => (i.zero, i.size, i.bytes)) = some (some (.int .i64 0), 1, 8) := by kernel_rfl
theorem info_rowT : (Tryd.prog.info? 46).map (fun i => (i.zero, i.size, i.bytes)) = some (some (.slice none 0 0), 1, 24) := by kernel_rfl
theorem row_apart {w : World} {base size n m b : Nat} {T1 T2 : TypeId} {v : Value} {xs : List Value} {f : Nat → Value} (h : w.ownsRow base T1 size v n xs) (hr : w.rowIs b T2 m f) (hne : T1 ≠ T2) : some b ≠ v.ownBlock := by
  rcases h.2 with ⟨rfl, _⟩ | ⟨g, cap, cur, rfl, _, hh, _⟩
  · simp [Value.ownBlock]
  · intro e
    simp [Value.ownBlock] at e
    subst e
    obtain ⟨c, hc, _⟩ := hr
    rw [hh] at hc
    injection hc with hc
    injection hc with _ hc
    exact hne hc
def outK (gb : Nat → Nat) (k : Nat) : List Value := (List.range k).map fun i => .slice (some ⟨gb i, 0, none⟩) (2 ^ (8 - i)) (2 ^ (8 - i))
theorem outK_snoc (gb : Nat → Nat) (k : Nat) : outK gb (k + 1) = outK gb k ++ [.slice (some ⟨gb k, 0, none⟩) (2 ^ (8 - k)) (2 ^ (8 - k))] := by simp [outK, List.range_succ]
theorem outK_congr {gb gb' : Nat → Nat} {k : Nat} (h : ∀ i, i < k → gb i = gb' i) : outK gb k = outK gb' k := by
  unfold outK
  refine List.map_congr_left fun i hi => ?_
  rw [h i (List.mem_range.1 hi)]
def lenS : Value → Nat
  | .slice _ n _ => n
  | _ => 0
/-- the tree as it lies in memory -/
def TreeAt (w : World) (base : Nat) (v : Value) (es : List Pr) : Prop :=
  ∃ gb : Nat → Nat, w.ownsRow base 46 1 v 9 ((List.range 9).map fun k => .slice (some ⟨gb k, 0, none⟩) (2 ^ (8 - k)) (2 ^ (8 - k))) ∧ ∀ k, k ≤ 8 → w.rowIs (gb k) 3 (2 ^ (8 - k)) (fun i => .int .i64 (rowF es k i))

set_option maxRecDepth 100000 in
set_option maxHeartbeats 2000000 in
theorem tree_walk (A : Option Addr) (n c : Nat) (es : List Pr) (w : World) (hr : Rd w 3 A n c (es.flatMap Pr.cells)) (hm : c ≤ maxLen) :
    Calls Tryd.prog 77 #[.slice A n c] w fun e w' => ((treeK es ≠ 0 ∧ e = .returned (.tuple #[.slice none 0 0, errV (treeK es)])) ∨ (treeK es = 0 ∧ ∃ v, e = .returned (.tuple #[v, .nilIface]) ∧ TreeAt w' w.heap.size v es)) ∧ Ext w w' := by
  have hx := hr.lenP
  have HX := Lib.hid hx
  have hl := hr.2.1
  have hms : c ≤ 9223372036854775807 := by unfold maxLen at hm; omega
  by_cases hn : 60 < n
  · have HK : Hid (treeK es = 4) := by show _ = _; unfold treeK; rw [if_pos (by omega)]
    clear hx
    go_enter Tryd.func77, Tryd.ntmps77
    go_wp2_with fail
    go_ret2
    exact ⟨.inl ⟨by rw [HK.out]; decide, by rw [HK.out]; rfl⟩, Ext.refl _⟩
  obtain ⟨k, HK⟩ : ∃ k, Hid (treeGo [] es = k) := ⟨_, rfl⟩
  have HT : Hid (treeK es = k) := by show _ = _; unfold treeK; rw [if_neg (by omega)]; exact HK.out
  rw [HT.out]
  have hn60 : n ≤ 60 := by omega
  clear hx hn
  have hmk : ∀ W : World, (Instr.makeSlice 46 (.int .i64 256) (.int .i64 256)).run Tryd.prog W = .ok (.slice (some ⟨W.heap.size, 0, none⟩) 256 256) (W.alloc (.cells (madeCells #[.int .i64 0] 256) 3)) := run_make_row' (P := Tryd.prog) 46 3 (.int .i64 0) 8 Tryd.underlying46 info_int3 rfl .i64 .i64 256 (by omega) (by omega)
  have hmm := @run_makeMap Tryd.prog
  obtain ⟨z0, HZ0⟩ : ∃ k, Hid (leE = k) := ⟨_, rfl⟩
  have r0 := World.rowIs_made w (.int .i64 0) 256 3
  have e0 : Ext w (w.alloc (.cells (madeCells #[.int .i64 0] 256) 3)) := by (repeat (with_reducible first | exact Ext.refl _ | assumption | refine Ext.drew ?_ | refine Ext.drewN ?_ _ | refine Ext.alloc ?_ _ | refine Ext.trans ?_ (by with_reducible assumption)))
  generalize madeCells #[.int .i64 0] 256 = row0 at *
  go_enter Tryd.func77, Tryd.ntmps77
  go_wp2_with fail
  generalize hW0 : w.alloc (.cells row0 3) = W0 at *
  clear hW0
  go_loopw [5, 21] (fun v x wr => ∃ j : Nat, x = .int .i64 j ∧ j ≤ 256 ∧ Ext w wr ∧ Hid (wr.rowIs w.heap.size 3 256 (fun i => .int .i64 (if i < j then z0 else 0)))) (fun _ x _ => 256 - (intOf x).toNat)
  case atStart => exact ⟨0, rfl, Nat.zero_le _, e0, r0⟩
  case round =>
    obtain ⟨j, rfl, hj, hbw, hrow⟩ := hrel
    by_cases hc : j < 256
    · go_wp2_with fail
      refine (Leaf_any ⟨#[]⟩ _ (by decide)).mono ?_
      rintro _ w1 ⟨rfl, hb1⟩
      have HLE : Hid (leafL (⟨#[]⟩ : ByteArray).data.toList = z0) := HZ0.out
      rw [HLE.out]
      have hrow1 := hrow.out.of_block (hb1.block w.heap.size hrow.out.lt)
      have c0 := hrow1.cell hc
      have f0 := hrow1.frozen j
      have hbw1 := hbw.trans hb1
      go_wp2_with fail
      go_roundw
      case rel => exact ⟨j + 1, by go_num, by omega, hbw1.setCell (by simp) _, (hrow1.set j _).congr (fun i hi => by
        by_cases h1 : i = j
        · subst h1; simp
        · rw [if_neg h1]
          by_cases h2 : i < j
          · rw [if_pos h2, if_pos (by omega)]
          · rw [if_neg h2, if_neg (by omega)])⟩
      case measure => simp [intOf]; omega
    · obtain rfl : j = 256 := by omega
      have r1 : wr.rowIs w.heap.size 3 256 (fun i => .int .i64 (rowOf [] i)) := hrow.out.congr (fun i hi => by rw [if_pos hi, rowOf_nil, HZ0.out])
      clear hrow hmk
      have hU := UsedAt.new wr
      have hmb := r1.lt
      obtain ⟨mb, HMB⟩ : ∃ m, Hid (wr.heap.size = m) := ⟨_, rfl⟩
      have hwmb : w.heap.size < mb := by rw [← HMB.out]; exact hmb
      rw [HMB.out] at hU
      have r2 := r1.alloc (.map #[] 0)
      have e2 : Ext w (wr.alloc (.map #[] 0)) := hbw.alloc _
      rw [show ((256 : Nat) : Int) = 256 from rfl]
      go_wp2_with fail
      rw [HMB.out]
      generalize wr.alloc (.map #[] 0) = W2 at *
      clear r1 hbw hmb HMB
      go_loopw [7, 8, 9, 10, 32] (fun _ _ _ _ x wr => ∃ j : Nat, x = .int .i64 j ∧ j ≤ n ∧ Ext w wr ∧ Hid (wr.rowIs w.heap.size 3 256 (fun i => .int .i64 (rowOf (es.take j) i)) ∧ UsedAt wr mb j (usedOf (es.take j))) ∧ Hid (treeGo (es.take j) (es.drop j) = k)) (fun _ _ _ _ x _ => n - (intOf x).toNat)
      case atStart => exact ⟨0, rfl, Nat.zero_le _, e2, ⟨r2, hU⟩, HK.out⟩
      case round =>
        obtain ⟨j, rfl, hj, hbw, hin, hgo⟩ := hrel
        by_cases hc : j < n
        · have hgj := List.getElem?_eq_getElem (l := es) (i := j) (by rw [HX.out]; exact hc)
          obtain ⟨ad, rfl, hb, c0, c1, c2⟩ := (hr.ext hbw).getP hgj
          have HG := Lib.hid hgj
          have hst := treeGo_step hgj
          rw [hgo.out] at hst
          have HST := Lib.hid hst
          generalize es[j]'(by rw [HX.out]; exact hc) = p at *
          obtain ⟨pk, pv, pg⟩ := p
          clear hgj hst
          have PB : Bk (wr.alloc (.cells #[.string pk, .string pv, .bool pg] 25)) wr.heap.size 25 #[.string pk, .string pv, .bool pg] := Bk.at_ _ _ _ _ rfl
          have e3 : Ext w (wr.alloc (.cells #[.string pk, .string pv, .bool pg] 25)) := hbw.alloc _
          have hR := hr.ext e3
          have hr3 := hin.out.1.alloc (.cells #[.string pk, .string pv, .bool pg] 25)
          have hu3 := hin.out.2.ext (Ext.alloc (Ext.refl wr) (.cells #[.string pk, .string pv, .bool pg] 25))
          have hmw : mb < wr.heap.size := by
            obtain ⟨D, ⟨es', ck, h1, _⟩, _⟩ := hin.out.2
            rcases Nat.lt_or_ge mb wr.heap.size with h2 | h2
            · exact h2
            · rw [Array.getElem?_eq_none h2] at h1; cases h1
          go_wp2_with fail
          generalize wr.alloc (.cells #[.string pk, .string pv, .bool pg] 25) = W3 at *
          obtain ⟨g, HGN⟩ : ∃ g, wr.heap.size = g := ⟨_, rfl⟩
          rw [HGN] at PB hmw
          rw [HGN]
          clear HGN hin hbw c0 c1 c2 hb
          refine (Key_any pk _).mono ?_
          rintro _ _ ⟨rfl, rfl⟩
          by_cases hk0 : keyK pk = 0
          · obtain ⟨q1, q2⟩ := keyK_zero.1 hk0
            have HK0 := Lib.hid hk0
            rw [hk0, errR_0]
            have x0 := PB.cell 0
            have x1 := PB.cell 1
            have x2 := PB.cell 2
            clear hk0
            go_wp2_with fail
            refine (place_any pk _ (by unfold maxLen; omega)).mono ?_
            have hpl := plcN_lt pk
            obtain ⟨pl, HPL⟩ : ∃ x, Hid (plcN pk = x) := ⟨_, rfl⟩
            rw [HPL.out] at hpl
            rw [HPL.out]
            rintro _ w4 ⟨rfl, hb4⟩
            have x0 := (PB.ext hb4).cell 0
            have x1 := (PB.ext hb4).cell 1
            have x2 := (PB.ext hb4).cell 2
            have e4 := e3.trans hb4
            have r4 := hr3.of_block (hb4.block w.heap.size hr3.lt)
            have u4 := hu3.ext hb4
            have R4 := hR.ext hb4
            have PB4 := PB.ext hb4
            clear e3 hr3 hu3 hR
            by_cases h2 : 200 < pv.size
            · have hk : k = 4 := by
                have h3 := HST.out
                have h4 : pairK (es.take j) ⟨pk, pv, pg⟩ = 4 := by unfold pairK; rw [if_neg (not_not_intro HK0.out), if_pos h2]
                rw [h4, if_pos (by decide)] at h3
                exact h3
              subst hk
              go_wp2_with fail
              go_ret2
              exact ⟨.inl ⟨by decide, rfl⟩, e4⟩
            · cases pg
              · have ul : ∀ W, Ext w4 W → (Instr.lookup 134 (.map (some mb)) (.int .i64 (pl : Int)) false).run Tryd.prog W = .ok (.bool (usedOf (es.take j) pl)) W := fun W e => (u4.ext e).look hpl
                obtain ⟨ub, HUB⟩ : ∃ x, Hid (usedOf (es.take j) pl = x) := ⟨_, rfl⟩
                rw [HUB.out] at ul
                have ul0 := ul w4 (Ext.refl _)
                have ul1 := ul w4.drew (Ext.refl _).drew
                obtain ⟨ob, HOB⟩ : ∃ x, Hid (ordB (es.take j) ⟨pk, pv, false⟩ = x) := ⟨_, rfl⟩
                clear ul
                go_upto_region 21 with (fail)
                go_cut [56] from 33 to 86 (fun v wc => v = .bool (ob || ub) ∧ w4.drew = wc)
                case first =>
                  as_aux_lemma =>
                  by_cases hj0 : j = 0
                  · subst hj0
                    have hob : ob = false := by rw [← HOB.out]; rfl
                    subst hob
                    clear HOB
                    go_region
                    go_wp2_with fail
                    go_meet
                    exact ⟨rfl, rfl⟩
                  · have hgm := List.getElem?_eq_getElem (l := es) (i := j - 1) (by rw [HX.out]; omega)
                    obtain ⟨ad', e, hb', y0, -, -⟩ := R4.getP hgm
                    obtain rfl : ad = ad' := by injection e
                    have hob : ob = !(Op.bytesLess (es[j - 1]'(by rw [HX.out]; omega)).key.toList pk.toList) := by
                      rw [← HOB.out]
                      unfold ordB
                      have h5 : es.take j = es.take (j - 1) ++ [es[j - 1]'(by rw [HX.out]; omega)] := by
                        rw [← List.take_succ_eq_append_getElem, Nat.sub_add_cancel (by omega)]
                      rw [h5, List.getLast?_append]
                      rfl
                    generalize (es[j - 1]'(by rw [HX.out]; omega)).key = qk at *
                    obtain ⟨lb, HLB⟩ : ∃ x, Op.bytesLess qk.toList pk.toList = x := ⟨_, rfl⟩
                    rw [HLB] at hob
                    have k1 : IntKind.i64.wrap ((j : Int) - 1) = (j : Int) - 1 := IntWalk.i64_in _ (by omega)
                    have k2 : ((j : Int) - 1).toNat = j - 1 := by omega
                    have k3 : 0 ≤ (j : Int) - 1 := by omega
                    have k5 : (j : Int) - 1 < (n : Int) := by omega
                    have k6 : 0 < (j : Int) := by omega
                    have k7 : j - 1 < n := by omega
                    have k8 : 0 < j := by omega
                    have k9 : decide ((0 : Int) < (j : Int)) = true := decide_eq_true k6
                    clear HOB hgm e HST HG hgo HUB x0 x1 x2 hj0 u4 r4 PB4
                    have x0 := (PB.ext hb4).cell 0
                    cases lb
                    · subst hob
                      go_region
                      go_wp2_with fail
                      go_meet
                      exact ⟨rfl, rfl⟩
                    · subst hob
                      go_region
                      go_wp2_with fail
                      go_meet
                      exact ⟨rfl, rfl⟩
                case rest =>
                as_aux_lemma =>
                obtain ⟨rfl, rfl⟩ := hcut
                have hpk0 : pairK (es.take j) ⟨pk, pv, false⟩ = if (ob || ub) = true then 7 else 0 := by
                  unfold pairK
                  rw [if_neg (not_not_intro HK0.out), if_neg h2, if_neg Bool.false_ne_true]
                  show (if (ordB (es.take j) ⟨pk, pv, false⟩ || usedOf (es.take j) (plcN pk)) = true then (7 : Int) else 0) = _
                  rw [HOB.out, HPL.out, HUB.out]
                cases hob : (ob || ub)
                · rw [hob, if_neg (by decide)] at hpk0
                  have hub : ub = false := by cases ub with | false => rfl | true => simp at hob
                  have hst2 : k = treeGo (es.take (j + 1)) (es.drop (j + 1)) := by
                    have h3 := HST.out
                    rw [hpk0, if_neg (by decide)] at h3
                    exact h3
                  have HST2 := Lib.hid hst2
                  clear hst2 hpk0 HST hgo ul0 ul1
                  obtain ⟨w5, hrun, u5', hg5, es5, ck5, hm5⟩ := (u4.ext ((Ext.refl w4).drew)).put (by omega) hpl
                  have hb5 : Ext w w5 := e4.drew.gbn hg5 (by omega)
                  have PB5 := (PB4.drew).kept hg5 (by simp; omega)
                  have r5 := r4.drew.of_block (hg5.block w.heap.size r4.lt (by simp; omega))
                  have y0 := PB5.cell 0
                  have y1 := PB5.cell 1
                  clear hg5 hm5
                  go_wp2_with fail
                  refine (kleaf_any pk pv _ q2 (by omega)).mono ?_
                  obtain ⟨kl, HKL⟩ : ∃ x, Hid (kleaf pk pv = x) := ⟨_, rfl⟩
                  rw [HKL.out]
                  rintro _ w6 ⟨rfl, hb6⟩
                  have e6 := hb5.trans hb6
                  have u6 := u5'.ext hb6
                  have r6 := r5.of_block (hb6.block w.heap.size r5.lt)
                  have c0 := r6.cell hpl
                  have f0 := r6.frozen pl
                  go_wp2_with fail
                  go_roundw
                  case rel =>
                    refine ⟨j + 1, by go_num, by omega, e6.setCell (by simp) _, ⟨(r6.set pl _).congr (fun i hi => ?_), ?_⟩, HST2.out.symm⟩
                    · have hfree : usedOf (es.take j) (plcN (⟨pk, pv, false⟩ : Pr).key) = false := by
                        show usedOf (es.take j) (plcN pk) = false
                        rw [HPL.out, HUB.out]; exact hub
                      have hts : es.take (j + 1) = es.take j ++ [⟨pk, pv, false⟩] := by
                        obtain ⟨hj', hge⟩ := List.getElem?_eq_some_iff.1 HG.out
                        rw [List.take_succ_eq_append_getElem hj', hge]
                      rw [hts, rowOf_snoc hfree i]
                      show _ = Value.int .i64 (if i = plcN pk then kleaf pk pv else rowOf (es.take j) i)
                      rw [HPL.out, HKL.out]
                      by_cases h5 : i = pl
                      · rw [if_pos h5, if_pos h5]
                      · rw [if_neg h5, if_neg h5]
                    · have hts : es.take (j + 1) = es.take j ++ [⟨pk, pv, false⟩] := by
                        obtain ⟨hj', hge⟩ := List.getElem?_eq_some_iff.1 HG.out
                        rw [List.take_succ_eq_append_getElem hj', hge]
                      have hfun : usedOf (es.take (j + 1)) = fun i => usedOf (es.take j) i || (pl == i) := by
                        funext i
                        rw [hts, usedOf_snoc]
                        show (usedOf (es.take j) i || (plcN pk == i)) = _
                        rw [HPL.out]
                      rw [hfun]
                      exact u6.set (by simp; omega) _
                  case measure => simp [intOf]; omega
                · rw [hob, if_pos rfl] at hpk0
                  have hk : k = 7 := by
                    have h3 := HST.out
                    rw [hpk0, if_pos (by decide)] at h3
                    exact h3
                  subst hk
                  go_wp2_with fail
                  go_ret2
                  exact ⟨.inl ⟨by decide, rfl⟩, e4.drew⟩
              · have hk : k = 3 := by
                  have h3 := HST.out
                  have h4 : pairK (es.take j) ⟨pk, pv, true⟩ = 3 := by unfold pairK; rw [if_neg (not_not_intro HK0.out), if_neg h2, if_pos rfl]
                  rw [h4, if_pos (by decide)] at h3
                  exact h3
                subst hk
                go_wp2_with fail
                go_ret2
                exact ⟨.inl ⟨by decide, rfl⟩, e4⟩
          · have HE := Lib.hid (errR_ne hk0)
            have hk : k = keyK pk := by
              have h3 := HST.out
              have h4 : pairK (es.take j) ⟨pk, pv, pg⟩ = keyK pk := by unfold pairK; rw [if_pos hk0]
              rw [h4, if_pos hk0] at h3
              exact h3
            obtain ⟨kk, HKK⟩ : ∃ x, Hid (keyK pk = x) := ⟨_, rfl⟩
            rw [HKK.out] at hk HE hk0
            rw [HKK.out, HE.out]
            have HK0 := Lib.hid hk0
            subst hk
            clear hk0
            simp only [errV]
            go_wp2_with fail
            go_ret2
            exact ⟨.inl ⟨HK0.out, rfl⟩, e3⟩
        · obtain rfl : j = n := by omega
          have hk : k = 0 := by
            rw [← hgo.out, List.drop_of_length_le (by rw [HX.out]; omega)]; rfl
          subst hk
          have htk : es.take j = es := List.take_of_length_le (by rw [HX.out]; omega)
          have r3 := hin.out.1
          rw [htk] at r3
          clear htk hin hgo HK hU r2 e2 r0 e0
          obtain ⟨i1, hi1, hz1, hz2, hz3⟩ := info_parts info_rowT
          have r4 := r3.alloc (.cells #[.slice (some ⟨w.heap.size, 0, none⟩) 256 256] 46)
          have o4 := World.ownsRow_lit (base := w.heap.size) (e := 46) (size := 1) wr #[.slice (some ⟨w.heap.size, 0, none⟩) 256 256] 1 hbw.size (by simp only [maxLen]; omega) rfl
          have e4 : Ext w (wr.alloc (.cells #[.slice (some ⟨w.heap.size, 0, none⟩) 256 256] 46)) := hbw.alloc _
          go_wp2_with fail
          generalize wr.alloc (.cells #[.slice (some ⟨w.heap.size, 0, none⟩) 256 256] 46) = W4 at *
          generalize (Value.slice (some ⟨wr.heap.size, 0, none⟩) 1 1) = v4 at *
          clear r3 hbw
          go_loopw [4, 11, 12, 13] (fun x y _ _ wr => ∃ (k : Nat) (gb : Nat → Nat), k ≤ 8 ∧ x = .slice (some ⟨gb k, 0, none⟩) (2 ^ (8 - k)) (2 ^ (8 - k)) ∧ Ext w wr ∧ Hid (wr.ownsRow w.heap.size 46 1 y (k + 1) (outK gb (k + 1))) ∧ Hid (∀ i, i ≤ k → wr.rowIs (gb i) 3 (2 ^ (8 - i)) (fun j => .int .i64 (rowF es i j)))) (fun x _ _ _ _ => lenS x)
          case atStart => exact ⟨0, fun _ => w.heap.size, by omega, rfl, e4, o4, fun i hi => by have h0 := Nat.le_zero.1 hi; subst h0; exact r4⟩
          case round =>
            obtain ⟨k, gb, hk8, rfl, hbw, hown, hrows⟩ := hrel
            by_cases hc : k < 8
            · have hp : 2 ^ (8 - k) = 2 * 2 ^ (8 - (k + 1)) := by
                rw [show 8 - k = (8 - (k + 1)) + 1 by omega, Nat.pow_succ, Nat.mul_comm]
              have hb1 : 1 ≤ 2 ^ (8 - (k + 1)) := Nat.pos_of_ne_zero (by simp)
              have hb2 : 2 ^ (8 - (k + 1)) ≤ 2 ^ 7 := Nat.pow_le_pow_right (by omega) (by omega)
              obtain ⟨h, HH⟩ : ∃ h, 2 ^ (8 - (k + 1)) = h := ⟨_, rfl⟩
              have rk := hrows.out k (Nat.le_refl _)
              rw [HH] at hp hb1 hb2
              rw [hp] at rk
              rw [hp]
              have hb3 : h ≤ 128 := hb2
              have HP := Lib.hid hp
              have HHH := Lib.hid HH
              have q1 : (1 : Int) < 2 * (h : Int) := by omega
              have q2 : 1 < 2 * h := by omega
              have e1 : Hid (((2 * h : Nat) : Int) / 2 = (h : Int)) := by show _ = _; omega
              have e2 : Hid ((2 * (h : Int)) / 2 = (h : Int)) := by show _ = _; omega
              have hmk := run_make_row' (P := Tryd.prog) 46 3 (.int .i64 0) 8 Tryd.underlying46 info_int3 rfl .i64 .i64 h (by omega) (by omega)
              clear hp HH hb2
              obtain ⟨WR, rfl⟩ : ∃ W, W = wr := ⟨_, rfl⟩
              have rn := World.rowIs_made WR (.int .i64 0) h 3
              have en := (Ext.refl WR).alloc (.cells (madeCells #[.int .i64 0] h) 3)
              generalize madeCells #[.int .i64 0] h = rown at *
              go_wp2_with fail
              generalize WR.alloc (.cells rown 3) = W5 at *
              obtain ⟨F, HF⟩ : ∃ F : Nat → Int, ∀ i, rowF es k i = F i := ⟨_, fun _ => rfl⟩
              obtain ⟨G, HG⟩ : ∃ G : Nat → Int, ∀ i, rowF es (k + 1) i = G i := ⟨_, fun _ => rfl⟩
              have hFG : ∀ i, nodeL (F (2 * i)) (F (2 * i + 1)) = G i := fun i => by rw [← HF, ← HF, ← HG]; rfl
              have hF0 : ∀ i, 0 ≤ F i := fun i => by rw [← HF]; exact (rowF_bd es k i).1
              have rkF : WR.rowIs (gb k) 3 (2 * h) (fun i => .int .i64 (F i)) := rk.congr fun i _ => by rw [HF]
              go_loopw [13, 98] (fun _ x wr => ∃ i : Nat, x = .int .i64 i ∧ i ≤ h ∧ Ext WR wr ∧ Hid (wr.rowIs WR.heap.size 3 h (fun t => .int .i64 (if t < i then G t else 0)))) (fun _ x _ => h - (intOf x).toNat)
              case atStart => exact ⟨0, rfl, Nat.zero_le _, en, rn⟩
              case round =>
                obtain ⟨i, rfl, hi, hb5, hrow⟩ := hrel
                by_cases hc2 : i < h
                · have p1 : IntKind.i64.wrap (2 * (i : Int)) = 2 * (i : Int) := IntWalk.i64_in _ (by omega)
                  have p2 : IntKind.i64.wrap (2 * (i : Int) + 1) = 2 * (i : Int) + 1 := IntWalk.i64_in _ (by omega)
                  have p3 : (2 * (i : Int)).toNat = 2 * i := by omega
                  have p4 : (2 * (i : Int) + 1).toNat = 2 * i + 1 := by omega
                  have p5 : 2 * (i : Int) < 2 * (h : Int) := by omega
                  have p6 : 2 * (i : Int) + 1 < 2 * (h : Int) := by omega
                  have p7 : 2 * i < 2 * h := by omega
                  have p8 : 2 * i + 1 < 2 * h := by omega
                  have p9 : 0 ≤ 2 * (i : Int) := by omega
                  have p10 : 0 ≤ 2 * (i : Int) + 1 := by omega
                  have rk5 := rkF.of_block (hb5.block (gb k) rkF.lt)
                  have c0 := rk5.cell p7
                  have c1 := rk5.cell p8
                  have c2 := hrow.out.cell hc2
                  have f2 := hrow.out.frozen i
                  obtain ⟨x, hx⟩ : ∃ x, F (2 * i) = x := ⟨_, rfl⟩
                  obtain ⟨y, hy⟩ : ∃ x, F (2 * i + 1) = x := ⟨_, rfl⟩
                  have hx0 := hF0 (2 * i)
                  have hy0 := hF0 (2 * i + 1)
                  have hG := hFG i
                  rw [hx] at c0 hx0
                  rw [hy] at c1 hy0
                  rw [hx, hy] at hG
                  rw [if_neg (Nat.lt_irrefl _)] at c2
                  have hgk : gb k < wr.heap.size := rk5.lt
                  have hnb : WR.heap.size < wr.heap.size := hrow.out.lt
                  have c2' : (wr.cell? ⟨WR.heap.size, i, none⟩).isSome = true := by rw [c2]; rfl
                  have hgn : gb k < WR.heap.size := rkF.lt
                  have HC := Lib.hid (And.intro c0 (And.intro c1 (And.intro c2' f2)))
                  have HC2 := Lib.hid c2
                  clear c2'
                  have HGG := Lib.hid hG
                  clear hG
                  go_wp2_with fail
                  go_region_with (go_at_call 84; (with_reducible refine (NodeOf_any x y _ hx0 hy0).mono ?_); rintro _ w6 ⟨rfl, hb6⟩; have n2 : w6.cell? ⟨WR.heap.size, i, none⟩ = some (.int .i64 0) := (hb6.cell hnb).trans HC2.out; have n3 : w6.frozen? ⟨WR.heap.size, i, none⟩ = false := (hb6.frozen hnb).trans HC.out.2.2.2)
                  all_goals
                    go_wp2_with fail
                    go_roundw
                    case rel => exact ⟨i + 1, by go_num, by omega, (hb5.trans (Ext.trans (Ext.drew (Ext.refl _)) hb6)).setCell (Nat.le_refl _) _, ((hrow.out.drew.of_block (hb6.block WR.heap.size hnb)).set i _).congr (fun t ht => by
                      by_cases h1 : t = i
                      · subst h1
                        rw [if_pos rfl, if_pos (by omega), ← HGG.out]
                      · rw [if_neg h1]
                        by_cases h2 : t < i
                        · rw [if_pos h2, if_pos (by omega)]
                        · rw [if_neg h2, if_neg (by omega)])⟩
                    case measure => simp [intOf]; omega
                · obtain rfl : i = h := by omega
                  have rG : wr.rowIs WR.heap.size 3 i (fun t => .int .i64 (rowF es (k + 1) t)) := hrow.out.congr fun t ht => by rw [if_pos ht, HG]
                  have own5 := own_ext hown.out hb5
                  have hbw5 := hbw.trans hb5
                  have hs5 := hbw5.size
                  have hrows5 : ∀ t, t ≤ k → wr.rowIs (gb t) 3 (2 ^ (8 - t)) (fun j => .int .i64 (rowF es t j)) := fun t ht => (hrows.out t ht).of_block (hb5.block (gb t) (hrows.out t ht).lt)
                  have HR5 := Lib.hid hrows5
                  have HRG := Lib.hid rG
                  have hnG := rG.lt
                  clear hrow hrows5 rG
                  go_wp2_with (at_builtin; refine wpl_apps (by rfl) _ _ _ (by rfl) w.heap.size 46 i1 _ 1 24 Tryd.underlying47 hi1 hz1 hz2 hz3 rfl (by omega) u11 _ _ (by rfl) (own5.alloc _) ⟨wr.heap.size, 0, none⟩ 1 1 [.slice (some ⟨WR.heap.size, 0, none⟩) i i] (by rfl) rfl (news_new wr _ _ _ rfl) (by intro u hu; simp at hu; subst hu; rfl) (by omega) (by omega) (by omega) (by simp; omega) ?_; intro g cap w6 own6 hg6 hH6 hlt6)
                  go_roundw
                  case rel =>
                    have hap : ∀ t, t ≤ k → some (gb t) ≠ u11.ownBlock := fun t ht => row_apart own5 (HR5.out t ht) (by decide)
                    have hap2 : some WR.heap.size ≠ u11.ownBlock := row_apart own5 HRG.out (by decide)
                    obtain ⟨gb', hup, hup1⟩ : ∃ gb' : Nat → Nat, (∀ t, t ≤ k → gb' t = gb t) ∧ gb' (k + 1) = WR.heap.size := ⟨fun t => if t = k + 1 then WR.heap.size else gb t, fun t ht => if_neg (by omega), if_pos rfl⟩
                    refine ⟨k + 1, gb', by omega, ?_, (hbw5.alloc _).grown hg6 (fun q hq => ?_), ?_, ?_⟩
                    · rw [hup1, HHH.out]
                    · exact own_block own5 q hq
                    · show w6.ownsRow _ _ _ _ _ _
                      rw [outK_snoc, hup1, HHH.out, outK_congr (gb' := gb) (fun t ht => hup t (by omega))]
                      exact own6
                    · intro t ht
                      by_cases h1 : t = k + 1
                      · subst h1
                        rw [hup1, HHH.out]
                        exact (HRG.out.alloc _).of_block (hg6.block _ (Nat.lt_of_lt_of_le hnG (by simp)) hap2)
                      · have hr5 := HR5.out t (by omega)
                        rw [hup t (by omega)]
                        exact (hr5.alloc _).of_block (hg6.block _ (Nat.lt_of_lt_of_le hr5.lt (by simp)) (hap t (by omega)))
                  case measure => show i < 2 * i; omega
            · obtain rfl : k = 8 := by omega
              go_wp2_with fail
              go_ret2
              exact ⟨⟨_, rfl, gb, hown.out, hrows.out⟩, hbw⟩
end Go.Proofs.YtnafegofmbhahaaDoor
