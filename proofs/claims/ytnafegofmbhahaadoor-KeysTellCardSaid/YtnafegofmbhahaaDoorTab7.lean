/- table.Open, Get and All. -/
import Derived.Test.YtnafegofmbhahaaDoorTab5
import Derived.Test.YtnafegofmbhahaaDoorTab6
import Derived.Test.YtnafegofmbhahaaDoorStore3
namespace Go.Proofs.YtnafegofmbhahaaDoor
open Go.RowKit Go.WideShapes
set_option linter.unusedVariables false
attribute [local go_sem ↓] Go.wp_at_zero Go.wp_at_succ

/-- a table in memory -/
structure TbAt (w : World) (B tb : Nat) (v : Value) (es : List Pr) : Prop where
  bk : Bk w tb 99 #[v]
  own : w.ownsRow B 25 3 v es.length (es.flatMap Pr.cells)
  asc : Asc es
  ok : ∀ p ∈ es, PrOk p
  len : es.length ≤ 200000000
theorem TbAt.ext {w w' : World} {B tb : Nat} {v : Value} {es : List Pr} (h : TbAt w B tb v es) (k : Ext w w') : TbAt w' B tb v es := ⟨h.bk.ext k, own_ext h.own k, h.asc, h.ok, h.len⟩

set_option maxRecDepth 100000 in
set_option maxHeartbeats 2000000 in
theorem Open_any (b : ByteArray) (w : World) (hb : b.size ≤ 500000000) :
    Calls Tryd.prog 13 #[.string b] w fun e w' => ((∃ es tb v, opn es b ∧ e = .returned (.tuple #[.pointer (some ⟨tb, 0, none⟩), .nilIface]) ∧ TbAt w' w.heap.size tb v es ∧ w.heap.size ≤ tb) ∨ ((∀ es, ¬ opn es b) ∧ e = .returned (.tuple #[.pointer none, errR 2]))) ∧ Ext w w' := by
  obtain ⟨hE, hN, hG⟩ := errR_rules
  by_cases h8 : b.size < 8
  · have hno : Hid (∀ es, ¬ opn es b) := Lib.hid fun es h => by have := (opn_cut h).1; omega
    have h8i : (b.size : Int) < 8 := by omega
    go_enter Tryd.func13, Tryd.ntmps13
    go_wp2_with fail
    go_ret2
    exact ⟨.inr ⟨hno.out, rfl⟩, Ext.refl _⟩
  · have h8i : ¬ (b.size : Int) < 8 := by omega
    have w1 : IntKind.i64.wrap ((b.size : Int) - 8) = (b.size : Int) - 8 := IntWalk.i64_in _ (by omega)
    have t1 : ((b.size : Int) - 8).toNat = b.size - 8 := by omega
    have i1 : (0 : Int) ≤ (b.size : Int) - 8 := by omega
    have i2 : (b.size : Int) - 8 ≤ (b.size : Int) := by omega
    have H0 : Hid ((cutB b).data.toList = bodyB [] ++ (b.extract 0 (b.size - 8)).data.toList) := by
      show _ = _
      simp [bodyB, cutB]
    have H1 : Hid (Ok256 []) := fun p hp => by simp at hp
    have HO : Hid (w.ownsRow w.heap.size 25 3 (.slice none 0 0) ([] : List Pr).length (([] : List Pr).flatMap Pr.cells)) := own_nil _ _ _ _
    obtain ⟨i0, hi0, hz0, hzs, hzb⟩ := info_parts info_pair
    have HB := Lib.hid hb
    go_enter Tryd.func13, Tryd.ntmps13
    go_wp2_with fail
    go_loopw [4, 5, 6, 7, 8] (fun x y _ _ _ wr => ∃ (es : List Pr) (rest : ByteArray), y = .string rest ∧ Ext w wr ∧ Hid (wr.ownsRow w.heap.size 25 3 x es.length (es.flatMap Pr.cells)) ∧ Hid ((cutB b).data.toList = bodyB es ++ rest.data.toList) ∧ Hid (Ok256 es)) (fun _ y _ _ _ _ => match y with | .string s => s.size | _ => 0)
    case atStart => exact ⟨[], _, rfl, Ext.refl _, HO, H0, H1⟩
    case round =>
      obtain ⟨es, rest, rfl, hbw, hown, hcut, h256⟩ := hrel
      have hcnt := open_count hcut.out
      by_cases hz : rest.size = 0
      · have HLAST : Hid (¬ opn es b → ∀ es0, ¬ opn es0 b) := Lib.hid fun h => open_last h256.out hcut.out hz h
        obtain rfl := str_noneP hz
        obtain ⟨A, c, rfl, hc, hr, hnil⟩ := own_rd hown.out
        clear hnil hz
        go_wp2_with fail
        refine (Build_any A es.length c es _ hr hc (by omega)).mono ?_
        obtain ⟨k, HK⟩ : ∃ x, Hid (tblK es = x) := ⟨_, rfl⟩
        obtain ⟨tr, HTR⟩ : ∃ x, Hid (tabR es = x) := ⟨_, rfl⟩
        rw [HK.out, HTR.out]
        rintro _ w2 ⟨rfl, hb2⟩
        have e2 := hbw.trans hb2
        have o2 := Lib.hid (own_ext hown.out hb2)
        clear hr
        by_cases hk : k = 0
        · subst hk
          have htr : tr = tabB es := by rw [← HTR.out]; exact if_pos HK.out
          by_cases hs : tr = b
          · have hop : Hid (opn es b) := ⟨HK.out, htr.symm.trans hs⟩
            rw [errR_0]
            subst hs
            have hsz : es.length ≤ 200000000 := by omega
            have B3 := Bk.at_ w2 99 #[.slice A es.length c] w2.heap.size rfl
            have e3 : Ext w2 (w2.alloc (.cells #[.slice A es.length c] 99)) := (Ext.refl _).alloc _
            clear htr
            go_wp2_with fail
            go_ret2
            exact ⟨.inl ⟨es, w2.heap.size, _, hop.out, rfl, ⟨B3, own_ext o2.out e3, (tblK_zero.1 HK.out).1, (tblK_zero.1 HK.out).2, hsz⟩, e2.size⟩, e2.trans e3⟩
          · have hno := Lib.hid (HLAST.out fun h => hs (htr.trans h.2))
            have hbe := (Lib.bytes_beq_false_iff tr b).2 hs
            rw [errR_0]
            clear hs htr
            go_wp2_with fail
            go_ret2
            exact ⟨.inr ⟨hno.out, rfl⟩, e2⟩
        · have hno := Lib.hid (HLAST.out fun h => hk (HK.out.symm.trans h.1))
          have hok := isOk_no hk
          clear hk
          go_wp2_with fail
          go_ret2
          exact ⟨.inr ⟨hno.out, rfl⟩, e2⟩
      · have hp : 0 < rest.size := Nat.pos_of_ne_zero hz
        obtain ⟨q1, q2⟩ := str_someP hp
        have hcl := hcnt.1
        clear hz
        go_wp2_with fail
        refine (First_any rest _ (by omega)).mono ?_
        rintro e w2 ⟨hf | hf, hb2⟩
        · obtain ⟨p, left, hf, rfl⟩ := hf
          obtain ⟨s1, s2, s3⟩ := open_step h256.out hcut.out hf
          have S1 := Lib.hid s1
          have S2 := Lib.hid s2
          have S3 := Lib.hid s3
          have e2 := hbw.trans hb2
          obtain ⟨pk, pv, pg⟩ := p
          have hcl2 := (open_count s2).1
          rw [List.length_append] at hcl2
          have hcl3 : 3 * (es.length + 1) ≤ b.size := hcl2
          have hnl : ((es ++ [(⟨pk, pv, pg⟩ : Pr)]).flatMap Pr.cells) = es.flatMap Pr.cells ++ [.string pk, .string pv, .bool pg] := by
            rw [List.flatMap_append]; rfl
          have HNL := Lib.hid hnl
          clear s1 s2 s3 hf hcl2 hnl hcl hcnt
          have P3 := Bk.at_ w2 25 #[.string pk, .string pv, .bool pg] w2.heap.size rfl
          have e3 : Ext w (w2.alloc (.cells #[.string pk, .string pv, .bool pg] 25)) := e2.alloc _
          have o3 := World.ownsRow.alloc (own_ext hown.out hb2) (.cells #[.string pk, .string pv, .bool pg] 25)
          go_upto_region 9 with (fail)
          generalize w2.alloc (.cells #[.string pk, .string pv, .bool pg] 25) = W3 at *
          generalize w2.heap.size = g at *
          have y0 : W3.cell? ⟨g, 0, none⟩ = some (.string pk) := P3.cell 0
          have y1 : W3.cell? ⟨g, 1, none⟩ = some (.string pv) := P3.cell 1
          have y2 : W3.cell? ⟨g, 2, none⟩ = some (.bool pg) := P3.cell 2
          have e4 : Ext w (W3.alloc (.cells #[.string pk, .string pv, .bool pg] 25)) := e3.alloc _
          have O4 := Lib.hid (World.ownsRow.alloc o3 (.cells #[.string pk, .string pv, .bool pg] 25))
          have hb4 := e4.size
          clear o3 P3 e2 hbw
          go_wp2_with (at_builtin; go_loud (refine wpList_append_own _ rfl _ _ 22 rfl w.heap.size 25 i0 _ 3 40 Tryd.underlying22 hi0 hz0 hzs hzb rfl (by omega) u4 es.length _ rfl O4.out ⟨W3.heap.size, 0, none⟩ 1 1 [.string pk, .string pv, .bool pg] (by rfl) rfl (news_new W3 _ _ _ rfl) (by intro u hu; simp at hu; rcases hu with rfl | rfl | rfl <;> rfl) (by unfold maxLen; omega) (by omega) hb4 ?_); intro v5 w5 own5 hg5 hH5; clear hH5; have e5 := own_grown O4.out hg5 w (Nat.le_refl _) e4)
          go_roundw
          case rel => exact ⟨_, left, rfl, e5, by
            show World.ownsRow _ _ _ _ _ _ _
            rw [HNL.out, List.length_append]
            exact own5, S2, S1⟩
          case measure => exact S3.out
        · obtain ⟨hf, rfl⟩ := hf
          have hno := Lib.hid (open_stuck h256.out hcut.out hp hf)
          clear hf
          go_wp2_with fail
          go_ret2
          exact ⟨.inr ⟨hno.out, rfl⟩, by (repeat (with_reducible first | exact Ext.refl _ | assumption | refine Ext.drew ?_ | refine Ext.drewN ?_ _ | refine Ext.alloc ?_ _ | refine Ext.trans ?_ (by with_reducible assumption)))⟩

theorem TAll_any (B tb : Nat) (v : Value) (es : List Pr) (w : World) (h : TbAt w B tb v es) :
    Calls Tryd.prog 14 #[.pointer (some ⟨tb, 0, none⟩)] w fun e w' => (∃ v', e = .returned v' ∧ w'.ownsRow w.heap.size 25 3 v' es.length (es.flatMap Pr.cells)) ∧ Ext w w' := by
  obtain ⟨A, c, rfl, hc, hr, hnil⟩ := own_rd h.own
  have s0 : w.cell? ⟨tb, 0, none⟩ = some (.slice A es.length c) := h.bk.cell 0
  have HC := Lib.hid (CloneP_any A es.length c (es.flatMap Pr.cells) w hr h.len hc (cells_one es))
  clear h hnil hr
  go_enter Tryd.func14, Tryd.ntmps14
  go_wp2_with fail
  refine HC.out.mono ?_
  rintro _ w1 ⟨⟨v', rfl, ho⟩, hb⟩
  have HO := Lib.hid ho
  clear ho
  go_wp2_with fail
  go_ret
  exact ⟨⟨v', rfl, HO.out⟩, hb⟩

def tgK (es : List Pr) (key : ByteArray) : Int := if hasB es key = true then 0 else 5
set_option maxRecDepth 100000 in
set_option maxHeartbeats 1000000 in
theorem TGet_any (B tb : Nat) (v : Value) (es : List Pr) (key : ByteArray) (w : World) (h : TbAt w B tb v es) :
    Calls Tryd.prog 15 #[.pointer (some ⟨tb, 0, none⟩), .string key] w fun e w' => e = .returned (.tuple #[(pairV es key).val, errR (tgK es key)]) ∧ Ext w w' := by
  obtain ⟨n, hn⟩ : ∃ n, es.length = n := ⟨_, rfl⟩
  have ow := h.own
  rw [hn] at ow
  obtain ⟨A, c, rfl, hc, hr, hnil⟩ := own_rd ow
  have HX := Lib.hid hn
  have hn60 : n ≤ 200000000 := by rw [← hn]; exact h.len
  have s0 : w.cell? ⟨tb, 0, none⟩ = some (.slice A n c) := h.bk.cell 0
  have hsl := h.bk.lt
  have HO := Lib.hid h.asc
  have HR := Lib.hid hr
  have B1 := Bk.at_ w 25 #[.string ⟨#[]⟩, .string ⟨#[]⟩, .bool false] w.heap.size rfl
  have e1 : Ext w (w.alloc (.cells #[.string ⟨#[]⟩, .string ⟨#[]⟩, .bool false] 25)) := (Ext.refl _).alloc _
  have s1 := (e1.cell (p := ⟨tb, 0, none⟩) hsl).trans s0
  have hne : tb ≠ w.heap.size := by omega
  clear h hnil hr ow hn s0
  go_enter Tryd.func15, Tryd.ntmps15
  go_wp2_with fail
  generalize w.alloc (.cells #[.string ⟨#[]⟩, .string ⟨#[]⟩, .bool false] 25) = W1 at *
  refine (Find_any A n c es key _ (HR.out.ext e1) hc (by omega) HO.out).mono ?_
  obtain ⟨lo, HLO⟩ : ∃ x, Hid (lowN es key = x) := ⟨_, rfl⟩
  obtain ⟨hb, HHB⟩ : ∃ x, Hid (hasB es key = x) := ⟨_, rfl⟩
  rw [HLO.out, HHB.out]
  rintro _ w2 ⟨rfl, hb2⟩
  have B2 := B1.ext hb2
  have hlt2 := B2.lt
  have f0 := B2.frozen 0
  have f1 := B2.frozen 1
  have f2 := B2.frozen 2
  have p0 : w2.cell? ⟨w.heap.size, 0, none⟩ = some (.string ⟨#[]⟩) := B2.cell 0
  have p1 : w2.cell? ⟨w.heap.size, 1, none⟩ = some (.string ⟨#[]⟩) := B2.cell 1
  have p2 : w2.cell? ⟨w.heap.size, 2, none⟩ = some (.bool false) := B2.cell 2
  have HB2 := Lib.hid B2
  have e2 := e1.trans hb2
  have s2 := (hb2.cell (p := ⟨tb, 0, none⟩) (e1.lt hsl)).trans s1
  clear B1 B2 s1
  cases hb with
  | false =>
    have hp : pairV es key = pr0 := by unfold pairV getE; rw [if_neg (by rw [HHB.out]; decide)]; rfl
    have hk : tgK es key = 5 := if_neg (by rw [HHB.out]; decide)
    have HP := Lib.hid hp
    have HK := Lib.hid hk
    clear hp hk
    go_wp2_with fail
    have B7 := ((HB2.out.set_ 0 (.string ⟨#[]⟩)).set_ 1 (.string ⟨#[]⟩)).set_ 2 (.bool false)
    have x0 : (((w2.setCell ⟨w.heap.size, 0, none⟩ (.string ⟨#[]⟩)).setCell ⟨w.heap.size, 1, none⟩ (.string ⟨#[]⟩)).setCell ⟨w.heap.size, 2, none⟩ (.bool false)).cell? ⟨w.heap.size, 0, none⟩ = some (.string ⟨#[]⟩) := (B7.cell 0).trans rfl
    have x1 : (((w2.setCell ⟨w.heap.size, 0, none⟩ (.string ⟨#[]⟩)).setCell ⟨w.heap.size, 1, none⟩ (.string ⟨#[]⟩)).setCell ⟨w.heap.size, 2, none⟩ (.bool false)).cell? ⟨w.heap.size, 1, none⟩ = some (.string ⟨#[]⟩) := (B7.cell 1).trans rfl
    have x2 : (((w2.setCell ⟨w.heap.size, 0, none⟩ (.string ⟨#[]⟩)).setCell ⟨w.heap.size, 1, none⟩ (.string ⟨#[]⟩)).setCell ⟨w.heap.size, 2, none⟩ (.bool false)).cell? ⟨w.heap.size, 2, none⟩ = some (.bool false) := (B7.cell 2).trans rfl
    have e7 := ((e2.setCell (p := ⟨w.heap.size, 0, none⟩) (Nat.le_refl _) (.string ⟨#[]⟩)).setCell (p := ⟨w.heap.size, 1, none⟩) (Nat.le_refl _) (.string ⟨#[]⟩)).setCell (p := ⟨w.heap.size, 2, none⟩) (Nat.le_refl _) (.bool false)
    refine bodyPost_ret (by simp [results, Tryd.results15, go_sem, x0, x1, x2]; try rfl) rfl ?_
    exact ⟨by first | (rw [HP.out, HK.out]; done) | (rw [HP.out, HK.out]; rfl), e7⟩
  | true =>
    obtain ⟨q, hq, hqk⟩ := has_get HHB.out
    rw [HLO.out] at hq
    have hlo : lo < n := by rw [← HX.out]; exact (List.getElem?_eq_some_iff.1 hq).1
    have hp : pairV es key = q := by unfold pairV getE; rw [if_pos HHB.out, HLO.out, hq]; rfl
    have hk : tgK es key = 0 := if_pos HHB.out
    have HP := Lib.hid hp
    have HK := Lib.hid hk
    obtain ⟨ad, rfl, hb', y0, y1, y2⟩ := (HR.out.ext e2).getP hq
    obtain ⟨qk, qv, qg⟩ := q
    simp only at y0 y1 y2
    have hl := HR.out.2.1
    clear hp hq hqk hk
    go_wp2_with fail
    have B7 := ((HB2.out.set_ 0 (.string qk)).set_ 1 (.string qv)).set_ 2 (.bool qg)
    have x0 : (((w2.setCell ⟨w.heap.size, 0, none⟩ (.string qk)).setCell ⟨w.heap.size, 1, none⟩ (.string qv)).setCell ⟨w.heap.size, 2, none⟩ (.bool qg)).cell? ⟨w.heap.size, 0, none⟩ = some (.string qk) := (B7.cell 0).trans rfl
    have x1 : (((w2.setCell ⟨w.heap.size, 0, none⟩ (.string qk)).setCell ⟨w.heap.size, 1, none⟩ (.string qv)).setCell ⟨w.heap.size, 2, none⟩ (.bool qg)).cell? ⟨w.heap.size, 1, none⟩ = some (.string qv) := (B7.cell 1).trans rfl
    have x2 : (((w2.setCell ⟨w.heap.size, 0, none⟩ (.string qk)).setCell ⟨w.heap.size, 1, none⟩ (.string qv)).setCell ⟨w.heap.size, 2, none⟩ (.bool qg)).cell? ⟨w.heap.size, 2, none⟩ = some (.bool qg) := (B7.cell 2).trans rfl
    have e7 := ((e2.setCell (p := ⟨w.heap.size, 0, none⟩) (Nat.le_refl _) (.string qk)).setCell (p := ⟨w.heap.size, 1, none⟩) (Nat.le_refl _) (.string qv)).setCell (p := ⟨w.heap.size, 2, none⟩) (Nat.le_refl _) (.bool qg)
    refine bodyPost_ret (by simp [results, Tryd.results15, go_sem, x0, x1, x2]; try rfl) rfl ?_
    exact ⟨by first | (rw [HP.out, HK.out]; done) | (rw [HP.out, HK.out]; rfl), e7⟩
end Go.Proofs.YtnafegofmbhahaaDoor
