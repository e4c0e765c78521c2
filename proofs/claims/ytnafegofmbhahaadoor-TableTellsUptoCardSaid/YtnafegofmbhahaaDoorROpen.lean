/- the references' bytes that are opened as pairs. -/
import Derived.Test.YtnafegofmbhahaaDoorRPairs
import Derived.Test.YtnafegofmbhahaaDoorRTable
import Derived.Test.YtnafegofmbhahaaDoorTab7
import Derived.Test.YtnafegofmbhahaaDoorGrown
import Derived.Deep.RegionLaw
namespace Go.Proofs.YtnafegofmbhahaaDoor
open Go.RowKit Go.WideShapes
set_option linter.unusedVariables false
attribute [local go_sem ↓] Go.wp_at_zero Go.wp_at_succ

theorem fst_ext {b : ByteArray} : (fRest b).extract 0 (fN b) = b.extract (1 + (byT b 0).toNat + 2) (1 + (byT b 0).toNat + 2 + fN b) ∧ fL b = b.extract (1 + (byT b 0).toNat + 2 + fN b) b.size := by
  constructor
  · refine bytes_ext ?_
    rw [ex_list', ex_list']
    unfold fRest
    rw [ex_end', List.drop_zero, Nat.sub_zero, Nat.add_sub_cancel_left]
  · refine bytes_ext ?_
    unfold fL
    rw [ex_end', ex_end']
    unfold fRest
    rw [ex_end', List.drop_drop]
theorem fst_rest_size (b : ByteArray) : (fRest b).size = b.size - (1 + (byT b 0).toNat + 2) := by unfold fRest; rw [ByteArray.size_extract]; omega

theorem step_appsL {P : Program} {w : World} {ops : Array Oper} {o : Oper} {a : Act} {K : Act → World → Prop} {Q : Exit → Act → World → Prop} {E : Prop} (hgd : o.guard = none) (s x : Operand) (t : TypeId)
    (ho : o.op = .call { callee := .builtin .append, args := #[s, x], argTypes := #[t, t] })
    (base : Nat) (e : TypeId) (i : TypeInfo) (z : Value) (size bytes : Nat) (ht : P.underlying t = some (.slice e)) (hi : P.info? e = some i) (hz : i.zero = some z)
    (hsize : i.size = size) (hby : i.bytes = bytes) (hzs : z.cells.size = size) (hsz : 0 < size)
    (v : Value) (n : Nat) (xs : List Value) (hs : a.eval s = v) (hown : w.ownsRow base e size v n xs)
    (ad : Addr) (m c : Nat) (news : List Value) (hx : a.eval x = .slice (some ad) m c) (hl : news.length = m * size) (hnews : ∀ j u, news[j]? = some u → w.cell? (ad.add j) = some u) (h1 : ∀ u ∈ news, u.oneCell' = true)
    (hm : 0 < m) (h63 : n + m ≤ 1000000000) (hbytes : bytes ≤ 1000) (hbase : base ≤ w.heap.size)
    (h : ∀ g cap w', w'.ownsRow base e size (.slice (some ⟨g, 0, none⟩) (n + m) cap) (n + m) (xs ++ news) → w.grownBy w' v.ownBlock → (v.ownBlock = some g ∨ g = w.heap.size) → g < w'.heap.size → K (a.put o.dst (.slice (some ⟨g, 0, none⟩) (n + m) cap)) w') :
    if Region.wanted o (yielded ops a.tmps) = true then Oper.wp P o a w K Q else E := by
  have hw : Region.wanted o (yielded ops a.tmps) = true := by simp [Region.wanted, hgd]
  rw [if_pos hw]
  exact wp_append_lies w s x t ho base e i z size bytes ht hi hz hsize hby hzs hsz v n xs hs hown ad m c news hx hl hnews h1 hm (by simp only [maxLen]; omega)
    (by have := Nat.mul_le_mul (show n + m ≤ 1000000000 by omega) hbytes; omega) hbase _ rfl h

set_option maxRecDepth 100000 in
set_option maxHeartbeats 2000000 in
theorem ROpen_any (b : ByteArray) (w : World) (hb : b.size ≤ 500000000) :
    Calls Tryd.prog 21 #[.string b] w fun e w' => ((∃ es v, opn es b ∧ e = .returned (.tuple #[v, .bool true]) ∧ w'.ownsRow w.heap.size 25 3 v es.length (es.flatMap Pr.cells)) ∨ ((∀ es, ¬ opn es b) ∧ ∃ v, e = .returned (.tuple #[v, .bool false]))) ∧ Ext w w' := by
  by_cases h8 : b.size < 8
  · have hno : Hid (∀ es, ¬ opn es b) := Lib.hid fun es h => by have := (opn_cut h).1; omega
    have h8i : (b.size : Int) < 8 := by omega
    go_enter Tryd.func21, Tryd.ntmps21
    go_wp2_with fail
    go_ret2
    exact ⟨.inr ⟨hno.out, _, rfl⟩, Ext.refl _⟩
  · have h8i : ¬ (b.size : Int) < 8 := by omega
    have w1 : IntKind.i64.wrap ((b.size : Int) - 8) = (b.size : Int) - 8 := IntWalk.i64_in _ (by omega)
    have t1 : ((b.size : Int) - 8).toNat = b.size - 8 := by omega
    have i1 : (0 : Int) ≤ (b.size : Int) - 8 := by omega
    have i2 : (b.size : Int) - 8 ≤ (b.size : Int) := by omega
    have H0 : Hid ((cutB b).data.toList = bodyB [] ++ (b.extract 0 (b.size - 8)).data.toList) := by
      show _ = _
      simp [bodyB, cutB]
    have H1 : Hid (Ok256 []) := fun p hp => by simp at hp
    have HO : Hid (w.ownsRow w.heap.size 25 3 (.slice none 0 0) ([] : List Pr).length (([] : List Pr).flatMap Pr.cells)) := own_nil _ _ _ _
    obtain ⟨i0, hi0, hz0, hzs, hzb⟩ := info_parts info_pair
    have HB := Lib.hid hb
    go_enter Tryd.func21, Tryd.ntmps21
    go_wp2_with fail
    go_loopw [4, 5, 6, 7] (fun x y _ _ wr => ∃ (es : List Pr) (rest : ByteArray), y = .string rest ∧ Ext w wr ∧ Hid (wr.ownsRow w.heap.size 25 3 x es.length (es.flatMap Pr.cells)) ∧ Hid ((cutB b).data.toList = bodyB es ++ rest.data.toList) ∧ Hid (Ok256 es)) (fun _ y _ _ _ => match y with | .string s => s.size | _ => 0)
    case atStart => exact ⟨[], _, rfl, Ext.refl _, HO, H0, H1⟩
    case round =>
      clear HO H0 H1 i1 i2 w1 t1
      obtain ⟨es, rest, rfl, hbw, hown, hcut, h256⟩ := hrel
      have hcnt := open_count hcut.out
      by_cases hz : rest.size = 0
      · have HLAST : Hid (¬ opn es b → ∀ es0, ¬ opn es0 b) := Lib.hid fun h => open_last h256.out hcut.out hz h
        obtain rfl := str_noneP hz
        obtain ⟨n, hn⟩ : ∃ n, es.length = n := ⟨_, rfl⟩
        have ow := hown.out
        rw [hn] at ow hcnt
        obtain ⟨A, c, rfl, hc, hr, hnil⟩ := own_rd ow
        have HN := Lib.hid hn
        have HR := Lib.hid hr
        have HP := Lib.hid (RSPairs_any A n c es wr hr hc)
        obtain ⟨k, hk⟩ : ∃ k, tblK es = k := ⟨_, rfl⟩
        rw [hk] at HP
        have HK := Lib.hid hk
        clear hnil hz hr hn hk ow
        go_wp2_with fail
        refine HP.out.mono ?_
        rintro _ w2 ⟨rfl, hb2⟩
        have e2 := hbw.trans hb2
        have o2 := Lib.hid (own_ext hown.out hb2)
        by_cases hk : k = 0
        · subst hk
          have HT := Lib.hid (RTable_any A n c es w2 (HR.out.ext hb2) hc (by omega) (tblK_zero.1 HK.out).2)
          obtain ⟨tr, htr⟩ : ∃ t, tabB es = t := ⟨_, rfl⟩
          rw [htr] at HT
          have HTR := Lib.hid htr
          clear htr
          go_wp2_with fail
          refine HT.out.mono ?_
          rintro _ w3 ⟨rfl, hb3⟩
          by_cases hs : tr = b
          · have hop : Hid (opn es b) := ⟨HK.out, HTR.out.trans hs⟩
            have o3 := Lib.hid (own_ext o2.out hb3)
            subst hs
            go_wp2_with fail
            go_ret2
            exact ⟨.inl ⟨es, _, hop.out, rfl, o3.out⟩, e2.trans hb3⟩
          · have hno := Lib.hid (HLAST.out fun h => hs (HTR.out.symm.trans h.2))
            have hbe := (Lib.bytes_beq_false_iff tr b).2 hs
            clear hs
            go_wp2_with fail
            go_ret2
            exact ⟨.inr ⟨hno.out, _, rfl⟩, e2.trans hb3⟩
        · have hno := Lib.hid (HLAST.out fun h => hk (HK.out.symm.trans h.1))
          go_wp2_with fail
          go_ret2
          exact ⟨.inr ⟨hno.out, _, rfl⟩, e2⟩
      · have hp : 0 < rest.size := Nat.pos_of_ne_zero hz
        obtain ⟨q1, q2⟩ := str_someP hp
        have hrs : rest.size ≤ 500000000 := by have := hcnt.2; omega
        have hcl := hcnt.1
        have g0 : ∀ h : 0 < rest.size, rest[0]'h = byT rest 0 := fun h => byT_get rest 0 h
        have hstk : (∀ p left, ¬ Fst rest p left) → ∀ es0, ¬ opn es0 b := open_stuck h256.out hcut.out hp
        have hok : fOk rest ↔ 3 + (byT rest 0).toNat ≤ rest.size ∧ (fG rest).toNat ≤ 1 ∧ 1 + (byT rest 0).toNat + 2 + fN rest ≤ rest.size := by
          have h1 := fst_rest_size rest
          unfold fOk
          rw [h1]
          constructor
          · rintro ⟨a1, a2, a3, a4⟩; exact ⟨a2, a3, by omega⟩
          · rintro ⟨a1, a2, a3⟩; exact ⟨hp, a1, a2, by omega⟩
        have hno : ¬ fOk rest → ∀ es0, ¬ opn es0 b := fun h => hstk fun p left hf => h (fst_ok hf)
        have hyes : fOk rest → Fst rest ⟨rest.extract 1 (1 + (byT rest 0).toNat), rest.extract (1 + (byT rest 0).toNat + 2) (1 + (byT rest 0).toNat + 2 + fN rest), decide ((fG rest).toNat = 1)⟩ (rest.extract (1 + (byT rest 0).toNat + 2 + fN rest) rest.size) := fun h => by
          have h1 := fst_of h
          unfold fP at h1
          rw [fst_ext.1, fst_ext.2] at h1
          exact h1
        have hfg : ∀ h : 1 + (byT rest 0).toNat < rest.size, rest[1 + (byT rest 0).toNat]'h = fG rest := fun h => byT_get rest _ h
        have hfn : ∀ h : 1 + (byT rest 0).toNat + 1 < rest.size, rest[1 + (byT rest 0).toNat + 1]'h = byT rest (1 + (byT rest 0).toNat + 1) := fun h => byT_get rest _ h
        have hfN : fN rest = (byT rest (1 + (byT rest 0).toNat + 1)).toNat := rfl
        rw [hfN] at hok hyes
        obtain ⟨k, hkk⟩ : ∃ k, byT rest 0 = k := ⟨_, rfl⟩
        rw [hkk] at g0 hok hyes hfg hfn
        obtain ⟨nb, hnb'⟩ : ∃ x, byT rest (1 + k.toNat + 1) = x := ⟨_, rfl⟩
        rw [hnb'] at hok hyes hfn
        obtain ⟨g, hgg⟩ : ∃ g, fG rest = g := ⟨_, rfl⟩
        rw [hgg] at hok hyes hfg
        have HOK := Lib.hid hok
        have HNO := Lib.hid hno
        have HYES := Lib.hid hyes
        have hk := k.toNat_lt
        have hnb := nb.toNat_lt
        have w1 : IntKind.i64.wrap (3 + (k.toNat : Int)) = 3 + (k.toNat : Int) := IntWalk.i64_in _ (by omega)
        clear hok hno hyes hstk hfN hkk hnb' hgg hz hcnt
        by_cases hA : rest.size < 3 + k.toNat
        · have hn0 := Lib.hid (HNO.out fun h => by have := (HOK.out.1 h).1; omega)
          have hAi : (rest.size : Int) < 3 + (k.toNat : Int) := by omega
          clear hfg hfn
          go_wp2_with fail
          go_ret2
          exact ⟨.inr ⟨hn0.out, _, rfl⟩, hbw⟩
        · have hAi : ¬ (rest.size : Int) < 3 + (k.toNat : Int) := by omega
          have w2 : IntKind.i64.wrap (1 + (k.toNat : Int)) = 1 + (k.toNat : Int) := IntWalk.i64_in _ (by omega)
          have w3 : IntKind.i64.wrap (1 + (k.toNat : Int) + 2) = 1 + (k.toNat : Int) + 2 := IntWalk.i64_in _ (by omega)
          have w4 : IntKind.i64.wrap (1 + (k.toNat : Int) + 1) = 1 + (k.toNat : Int) + 1 := IntWalk.i64_in _ (by omega)
          have w5 : IntKind.i64.wrap (1 + (k.toNat : Int) + 2 + (nb.toNat : Int)) = 1 + (k.toNat : Int) + 2 + (nb.toNat : Int) := IntWalk.i64_in _ (by omega)
          have t2 : (1 + (k.toNat : Int)).toNat = 1 + k.toNat := by omega
          have t3 : (1 + (k.toNat : Int) + 2).toNat = 1 + k.toNat + 2 := by omega
          have t4 : (1 + (k.toNat : Int) + 1).toNat = 1 + k.toNat + 1 := by omega
          have t5 : (1 + (k.toNat : Int) + 2 + (nb.toNat : Int)).toNat = 1 + k.toNat + 2 + nb.toNat := by omega
          have i1 : (1 : Int) ≤ 1 + (k.toNat : Int) := by omega
          have i2 : 1 + (k.toNat : Int) ≤ (rest.size : Int) := by omega
          have i3 : 1 + (k.toNat : Int) < (rest.size : Int) := by omega
          have i4 : 0 ≤ 1 + (k.toNat : Int) := by omega
          have i6 : 1 + (k.toNat : Int) + 1 < (rest.size : Int) := by omega
          have i7 : 0 ≤ 1 + (k.toNat : Int) + 2 := by omega
          have i8 : 0 ≤ 1 + (k.toNat : Int) + 1 := by omega
          have i9 : 1 + k.toNat < rest.size := by omega
          have i10 : 1 + k.toNat + 1 < rest.size := by omega
          have j1 := hfg i9
          have j2 := hfn i10
          have i11 : 0 ≤ 1 + (k.toNat : Int) + 2 + (nb.toNat : Int) := by omega
          have i12 : 1 + (k.toNat : Int) + 2 ≤ 1 + (k.toNat : Int) + 2 + (nb.toNat : Int) := by omega
          by_cases hg : g.toNat ≤ 1
          · have hgi : ¬ (1 : Int) < (g.toNat : Int) := by omega
            by_cases hn : 1 + k.toNat + 2 + nb.toNat ≤ rest.size
            · have hni : ¬ (rest.size : Int) < 1 + (k.toNat : Int) + 2 + (nb.toNat : Int) := by omega
              have hni2 : 1 + (k.toNat : Int) + 2 + (nb.toNat : Int) ≤ (rest.size : Int) := by omega
              go_upto_region 12 with (fail)
              obtain ⟨gb, HGB⟩ : ∃ x, Hid (((g.toNat : Int) == 1) = x) := ⟨_, rfl⟩
              obtain ⟨m, hm⟩ : ∃ m, es.length = m := ⟨_, rfl⟩
              have ow := hown.out
              rw [hm] at ow hcl
              have HM := Lib.hid hm
              have hfst : Fst rest ⟨rest.extract 1 (1 + k.toNat), rest.extract (1 + k.toNat + 2) (1 + k.toNat + 2 + nb.toNat), gb⟩ (rest.extract (1 + k.toNat + 2 + nb.toNat) rest.size) := by
                have h := HYES.out (HOK.out.2 ⟨by omega, hg, hn⟩)
                have hgb : decide (g.toNat = 1) = gb := by
                  rw [← HGB.out]
                  by_cases h1 : g.toNat = 1
                  · rw [decide_eq_true h1, h1]; rfl
                  · rw [decide_eq_false h1]
                    exact (beq_eq_false_iff_ne.2 (fun h => h1 (by omega))).symm
                rw [hgb] at h
                exact h
              obtain ⟨s1, s2, s3⟩ := open_step h256.out hcut.out hfst
              have S1 := Lib.hid s1
              have S2 := Lib.hid s2
              have S3 := Lib.hid s3
              have hcl2 := (open_count s2).1
              rw [List.length_append, hm] at hcl2
              have hcl3 : 3 * (m + 1) ≤ b.size := hcl2
              have hnl : ((es ++ [(⟨rest.extract 1 (1 + k.toNat), rest.extract (1 + k.toNat + 2) (1 + k.toNat + 2 + nb.toNat), gb⟩ : Pr)]).flatMap Pr.cells) = es.flatMap Pr.cells ++ [.string (rest.extract 1 (1 + k.toNat)), .string (rest.extract (1 + k.toNat + 2) (1 + k.toNat + 2 + nb.toNat)), .bool gb] := by
                rw [List.flatMap_append]; rfl
              have HNL := Lib.hid hnl
              obtain ⟨kk, HKK⟩ : ∃ x, Hid (rest.extract 1 (1 + k.toNat) = x) := ⟨_, rfl⟩
              obtain ⟨vv, HVV⟩ : ∃ x, Hid (rest.extract (1 + k.toNat + 2) (1 + k.toNat + 2 + nb.toNat) = x) := ⟨_, rfl⟩
              obtain ⟨lf, HLF⟩ : ∃ x, Hid (rest.extract (1 + k.toNat + 2 + nb.toNat) rest.size = x) := ⟨_, rfl⟩
              rw [HKK.out, HVV.out] at HNL S1 S2
              rw [HLF.out] at S2 S3
              have hkx := HKK.out
              have hvx := HVV.out
              have hlx := HLF.out
              have hgx := HGB.out
              have HOW := Lib.hid ow
              clear s1 s2 s3 hfst hcl2 hnl hm ow HYES HNO HOK
              have hw5 : w.heap.size ≤ (wr.alloc (.cells #[.string kk, .string vv, .bool gb] 25)).heap.size := Nat.le_trans hbw.size ((Ext.refl wr).alloc (.cells #[.string kk, .string vv, .bool gb] 25)).size
              go_region_law (refine step_appsL (by rfl) _ _ _ (by rfl) w.heap.size 25 i0 _ 3 40 Tryd.underlying22 hi0 hz0 hzs hzb rfl (by omega) u4 m _ (by rfl) (own_ext HOW.out (by (repeat (with_reducible first | exact Ext.refl _ | assumption | refine Ext.drew ?_ | refine Ext.drewN ?_ _ | refine Ext.alloc ?_ _ | refine Ext.trans ?_ (by with_reducible assumption))))) ⟨wr.heap.size, 0, none⟩ 1 1 [.string kk, .string vv, .bool gb] (by rfl) rfl (news_new wr _ _ _ rfl) (by intro u hu; simp at hu; rcases hu with rfl | rfl | rfl <;> rfl) (by omega) (by omega) (by omega) hw5 ?_; intro g5 cap5 w5 own5 hg5 hH5 hlt5)
              all_goals
                have e5 := own_grown (own_ext HOW.out (by (repeat (with_reducible first | exact Ext.refl _ | assumption | refine Ext.drew ?_ | refine Ext.drewN ?_ _ | refine Ext.alloc ?_ _ | refine Ext.trans ?_ (by with_reducible assumption))))) hg5 w (Nat.le_refl _) (by (repeat (with_reducible first | exact Ext.refl _ | assumption | refine Ext.drew ?_ | refine Ext.drewN ?_ _ | refine Ext.alloc ?_ _ | refine Ext.trans ?_ (by with_reducible assumption))))
                have O5 : Hid (w5.ownsRow w.heap.size 25 3 (.slice (some ⟨g5, 0, none⟩) (m + 1) cap5) (es ++ [(⟨kk, vv, gb⟩ : Pr)]).length ((es ++ [(⟨kk, vv, gb⟩ : Pr)]).flatMap Pr.cells)) := by
                  show World.ownsRow _ _ _ _ _ _ _
                  rw [HNL.out, List.length_append, HM.out]
                  exact own5
                clear own5 hg5
                go_wp2_with fail
                go_roundw
                case rel => exact ⟨_, lf, rfl, e5, O5, S2, S1⟩
                case measure => exact S3.out
            · have hni : (rest.size : Int) < 1 + (k.toNat : Int) + 2 + (nb.toNat : Int) := by omega
              have hn0 := Lib.hid (HNO.out fun h => hn (HOK.out.1 h).2.2)
              go_wp2_with fail
              go_ret2
              exact ⟨.inr ⟨hn0.out, _, rfl⟩, hbw⟩
          · have hgi : (1 : Int) < (g.toNat : Int) := by omega
            have hn0 := Lib.hid (HNO.out fun h => hg (HOK.out.1 h).2.1)
            go_wp2_with fail
            go_ret2
            exact ⟨.inr ⟨hn0.out, _, rfl⟩, hbw⟩
end Go.Proofs.YtnafegofmbhahaaDoor
