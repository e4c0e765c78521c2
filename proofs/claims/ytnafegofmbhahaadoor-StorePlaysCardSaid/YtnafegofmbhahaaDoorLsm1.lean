/- lsm: what is gone; a level that is built. -/
import Derived.Test.YtnafegofmbhahaaDoorLsmP
import Derived.Test.YtnafegofmbhahaaDoorTab7
import Derived.Test.YtnafegofmbhahaaDoorInsertL
namespace Go.Proofs.YtnafegofmbhahaaDoor
open Go.RowKit Go.WideShapes
set_option linter.unusedVariables false
attribute [local go_sem ↓] Go.wp_at_zero Go.wp_at_succ

theorem gone_any (p : Pr) (w : World) : Calls Tryd.prog 110 #[p.val] w fun e w' => e = .returned (.bool p.gone) ∧ Ext w w' := by
  obtain ⟨pk, pv, pg⟩ := p
  have B := Bk.at_ w 25 #[.string pk, .string pv, .bool pg] w.heap.size rfl
  have e0 : Ext w (w.alloc (.cells #[.string pk, .string pv, .bool pg] 25)) := (Ext.refl _).alloc _
  have c2 : (w.alloc (.cells #[.string pk, .string pv, .bool pg] 25)).cell? ⟨w.heap.size, 2, none⟩ = some (.bool pg) := B.cell 2
  go_enter Tryd.func110, Tryd.ntmps110
  go_wp2_with fail
  go_ret
  exact ⟨rfl, e0⟩

set_option maxRecDepth 100000 in
set_option maxHeartbeats 1000000 in
theorem IndexGone_any (A : Option Addr) (n c : Nat) (es : List Pr) (w : World) (hr : Rd w 3 A n c (es.flatMap Pr.cells)) (hm : c ≤ maxLen) :
    Calls Tryd.prog 124 #[.slice A n c, .func (.func 110) #[] #[]] w fun e w' => (((∀ p ∈ es, p.gone = false) ∧ e = .returned (.int .i64 (-1))) ∨ ∃ (i : Nat) (p : Pr), es[i]? = some p ∧ p.gone = true ∧ (∀ q ∈ es.take i, q.gone = false) ∧ e = .returned (.int .i64 i)) ∧ Ext w w' := by
  have hl := hr.2.1
  have HX := Lib.hid hr.lenP
  have hrun : ∀ (v : Value) (w : World), (callFunc 110 #[v]).run Tryd.prog w = .ok (.enter 110 #[v]) w := fun v w => by kernel_rfl
  have H0 : Hid (∀ q ∈ es.take 0, q.gone = false) := Lib.hid fun q hq => by simp at hq
  unfold maxLen at hm
  go_enter Tryd.func124, Tryd.ntmps124
  go_wp2_with fail
  go_loopw [5, 8] (fun _ x wr => ∃ j : Nat, x = .int .i64 j ∧ j ≤ n ∧ Ext w wr ∧ Hid (∀ q ∈ es.take j, q.gone = false)) (fun _ x _ => n - (intOf x).toNat)
  case atStart => exact ⟨0, rfl, Nat.zero_le _, Ext.refl _, H0⟩
  case round =>
    obtain ⟨j, rfl, hj, hbw, hall⟩ := hrel
    by_cases hc : j < n
    · have hgj := List.getElem?_eq_getElem (l := es) (i := j) (by rw [HX.out]; exact hc)
      obtain ⟨ad, rfl, hb, c0, c1, c2⟩ := (hr.ext hbw).getP hgj
      have hnext : es.take (j + 1) = es.take j ++ [es[j]'(by rw [HX.out]; exact hc)] := List.take_succ_eq_append_getElem (by rw [HX.out]; exact hc)
      generalize es[j]'(by rw [HX.out]; exact hc) = p at *
      obtain ⟨pk, pv, pg⟩ := p
      have HNX := Lib.hid hnext
      have HG := Lib.hid hgj
      simp only at c0 c1 c2
      clear hnext hgj
      go_wp2_with fail
      refine (gone_any ⟨pk, pv, pg⟩ _).mono ?_
      rintro _ w1 ⟨rfl, hb1⟩
      have e1 := hbw.trans hb1
      cases pg with
      | true =>
        go_wp2_with fail
        go_ret
        exact ⟨.inr ⟨j, _, HG.out, rfl, hall.out, rfl⟩, e1⟩
      | false =>
        have HA : Hid (∀ q ∈ es.take (j + 1), q.gone = false) := Lib.hid fun q hq => by
          rw [HNX.out] at hq
          rcases List.mem_append.1 hq with h | h
          · exact hall.out q h
          · obtain rfl : q = ⟨pk, pv, false⟩ := by simpa using h
            rfl
        go_wp2_with fail
        go_roundw
        case rel => exact ⟨j + 1, by go_num, by omega, e1, HA⟩
        case measure => simp [intOf]; omega
    · have hfin : Hid (∀ p ∈ es, p.gone = false) := Lib.hid fun p hp => hall.out p (by rw [List.take_of_length_le (by rw [HX.out]; omega)]; exact hp)
      go_wp2_with fail
      go_ret
      exact ⟨.inl ⟨hfin.out, rfl⟩, hbw⟩

theorem TbAt.chg {w w' : World} {B tb : Nat} {v : Value} {es : List Pr} {S : Nat → Prop} (h : TbAt w B tb v es) (k : Chg w w' S) (h1 : ¬ S tb) (h2 : ∀ g, v.ownBlock = some g → ¬ S g) : TbAt w' B tb v es :=
  ⟨h.bk.chg k h1, own_chg h.own k h2, h.asc, h.ok, h.len⟩
theorem TbAt.lower {w : World} {B B' tb : Nat} {v : Value} {es : List Pr} (h : TbAt w B tb v es) (hB : B' ≤ B) : TbAt w B' tb v es := ⟨h.bk, own_lower h.own hB, h.asc, h.ok, h.len⟩

/-- a level that is built of pairs that are right -/
theorem built_any (A : Option Addr) (n c : Nat) (es : List Pr) (w : World) (hr : Rd w 3 A n c (es.flatMap Pr.cells)) (hm : c ≤ maxLen) (hn : n ≤ 1000) (hk : tblK es = 0) :
    Calls Tryd.prog 89 #[.slice A n c] w fun e w' => (∃ tb v, e = .returned (.tuple #[.agg #[.string (tabB es), .pointer (some ⟨tb, 0, none⟩)], .nilIface]) ∧ TbAt w' w.heap.size tb v es ∧ w.heap.size ≤ tb) ∧ Ext w w' := by
  obtain ⟨hE, hN, hG⟩ := errR_rules
  have HX := Lib.hid hr.lenP
  have HK := Lib.hid hk
  have htr : tabR es = tabB es := if_pos hk
  have hsz : (tabB es).size ≤ 500000000 := by
    have h1 := bodyB_len (tblK_zero.1 hk).2
    rw [HX.out] at h1
    rw [tabB_size]
    omega
  have HTR := Lib.hid htr
  have HSZ := Lib.hid hsz
  obtain ⟨tb, HTB⟩ : ∃ x, Hid (tabB es = x) := ⟨_, rfl⟩
  rw [HTB.out] at HTR HSZ
  have B0 := Bk.at_ w 118 #[.string ⟨#[]⟩, .pointer none] w.heap.size rfl
  have e0 : Ext w (w.alloc (.cells #[.string ⟨#[]⟩, .pointer none] 118)) := (Ext.refl _).alloc _
  have hr0 := hr.ext e0
  clear hk htr hsz
  go_enter Tryd.func89, Tryd.ntmps89
  go_wp2_with fail
  generalize w.alloc (.cells #[.string ⟨#[]⟩, .pointer none] 118) = W1 at *
  refine (Build_any A n c es _ hr0 hm (by omega)).mono ?_
  rw [HTR.out, HK.out, errR_0]
  rintro _ w2 ⟨rfl, hb2⟩
  go_wp2_with fail
  refine (Open_any tb _ HSZ.out).mono ?_
  rintro e w3 ⟨ho | ho, hb3⟩
  · obtain ⟨es', t3, v3, hop, rfl, T3, hlt⟩ := ho
    obtain rfl : es' = es := opn_uniq hop ⟨HK.out, HTB.out⟩
    have e3 := (e0.trans hb2).trans hb3
    have B3 := (B0.ext hb2).ext hb3
    have HT3 := Lib.hid T3
    have y0 : w3.cell? ⟨w.heap.size, 0, none⟩ = some (.string ⟨#[]⟩) := B3.cell 0
    have y1 : w3.cell? ⟨w.heap.size, 1, none⟩ = some (.pointer none) := B3.cell 1
    have f0 := B3.frozen 0
    have f1 := B3.frozen 1
    have e2 := e0.trans hb2
    have HB3 := Lib.hid B3
    clear T3 hop B3
    go_wp2_with fail
    have hlt1 : w.heap.size < w2.heap.size := hb2.lt B0.lt
    have T7 : TbAt ((w3.setCell ⟨w.heap.size, 0, none⟩ (.string tb)).setCell ⟨w.heap.size, 1, none⟩ (.pointer (some ⟨t3, 0, none⟩))) w.heap.size t3 v3 es' := by
      refine TbAt.lower (HT3.out.chg (gb_chg (gb_trans (gb_set w3 w.heap.size 0 _) (gb_set _ w.heap.size 1 _))) ?_ fun g hg => ?_) (Nat.le_of_lt hlt1)
      · intro e; injection e with e; omega
      · have := own_block HT3.out.own g hg
        intro e; injection e with e; omega
    have B7 := (HB3.out.set_ 0 (.string tb)).set_ 1 (.pointer (some ⟨t3, 0, none⟩))
    have x0 : ((w3.setCell ⟨w.heap.size, 0, none⟩ (.string tb)).setCell ⟨w.heap.size, 1, none⟩ (.pointer (some ⟨t3, 0, none⟩))).cell? ⟨w.heap.size, 0, none⟩ = some (.string tb) := (B7.cell 0).trans rfl
    have x1 : ((w3.setCell ⟨w.heap.size, 0, none⟩ (.string tb)).setCell ⟨w.heap.size, 1, none⟩ (.pointer (some ⟨t3, 0, none⟩))).cell? ⟨w.heap.size, 1, none⟩ = some (.pointer (some ⟨t3, 0, none⟩)) := (B7.cell 1).trans rfl
    have e7 := (e3.setCell (p := ⟨w.heap.size, 0, none⟩) (Nat.le_refl _) (.string tb)).setCell (p := ⟨w.heap.size, 1, none⟩) (Nat.le_refl _) (.pointer (some ⟨t3, 0, none⟩))
    refine bodyPost_ret (by simp [results, Tryd.results89, go_sem, x0, x1]; try rfl) rfl ?_
    exact ⟨⟨t3, v3, by rw [HTB.out], T7, by omega⟩, e7⟩
  · exact absurd ⟨HK.out, HTB.out⟩ (ho.1 es)
end Go.Proofs.YtnafegofmbhahaaDoor
