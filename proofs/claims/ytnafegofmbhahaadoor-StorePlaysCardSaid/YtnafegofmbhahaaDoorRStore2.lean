/- the references' store: Put, Get. -/
import Derived.Test.YtnafegofmbhahaaDoorRStore
namespace Go.Proofs.YtnafegofmbhahaaDoor
open Go.RowKit
set_option linter.unusedVariables false
attribute [local go_sem ↓] Go.wp_at_zero Go.wp_at_succ

set_option maxRecDepth 100000 in
set_option maxHeartbeats 2000000 in
theorem RSPut_any (B : Nat) (v : Value) (es : List Pr) (p : Pr) (w : World) (hown : w.ownsRow B 25 3 v es.length (es.flatMap Pr.cells)) (hB : B ≤ w.heap.size) (ho : Asc es) (hn : es.length ≤ 1000000) :
    Calls Tryd.prog 43 #[v, p.val] w fun e w' => (∃ v', e = .returned (.tuple #[v', .int .i64 (putK es p)]) ∧ w'.ownsRow B 25 3 v' (storeL es p).length ((storeL es p).flatMap Pr.cells) ∧ (∀ g, v'.ownBlock = some g → v.ownBlock = some g ∨ w.heap.size ≤ g)) ∧ Ext w w' := by
  obtain ⟨n, hx⟩ : ∃ n, es.length = n := ⟨_, rfl⟩
  have ow := hown
  rw [hx] at ow hn
  obtain ⟨A, c, rfl, hc, hr, -⟩ := own_rd ow
  have HOWN := Lib.hid hown
  have HX := Lib.hid hx
  obtain ⟨pk, pv, pg⟩ := p
  have B1 := Bk.at_ w 25 #[.string pk, .string pv, .bool pg] w.heap.size rfl
  have e1 : Ext w (w.alloc (.cells #[.string pk, .string pv, .bool pg] 25)) := (Ext.refl _).alloc _
  have hr1 := hr.ext e1
  have HF := Lib.hid (RSFind_any A n c es pk _ hr1 hc ho)
  have HW := Lib.hid (RSWith_any A n c es ⟨pk, pv, pg⟩ _ hr1 hc ho hn)
  have y0 : (w.alloc (.cells #[.string pk, .string pv, .bool pg] 25)).cell? ⟨w.heap.size, 0, none⟩ = some (.string pk) := B1.cell 0
  have y1 : (w.alloc (.cells #[.string pk, .string pv, .bool pg] 25)).cell? ⟨w.heap.size, 1, none⟩ = some (.string pv) := B1.cell 1
  have y2 : (w.alloc (.cells #[.string pk, .string pv, .bool pg] 25)).cell? ⟨w.heap.size, 2, none⟩ = some (.bool pg) := B1.cell 2
  have hnc := hr.2.1
  clear hown ow hx B1 hr hr1 ho
  unfold maxLen at hc
  go_enter Tryd.func43, Tryd.ntmps43
  go_upto_region 1 with (fail)
  generalize w.alloc (.cells #[.string pk, .string pv, .bool pg] 25) = W1 at *
  go_wp2_with fail
  refine (RSKey_any pk W1).mono ?_
  obtain ⟨k, hk⟩ : ∃ k, keyK pk = k := ⟨_, rfl⟩
  rw [hk]
  rintro _ _ ⟨rfl, rfl⟩
  have hbad : ∀ j : Int, putK es ⟨pk, pv, pg⟩ = j → j ≠ 0 → W1.ownsRow B 25 3 (.slice A n c) (storeL es ⟨pk, pv, pg⟩).length ((storeL es ⟨pk, pv, pg⟩).flatMap Pr.cells) := fun j h1 h2 => by
    rw [store_bad (by rw [h1]; exact h2)]
    exact own_ext HOWN.out e1
  have HBAD := Lib.hid hbad
  clear hbad
  by_cases hk0 : k = 0
  · subst hk0
    have hp0 : putK es ⟨pk, pv, pg⟩ = if 200 < pv.size ∨ (hasB es pk = false ∧ 60 ≤ es.length) then 4 else 0 := by
      unfold putK
      rw [if_neg (not_not_intro hk)]
    rw [HX.out] at hp0
    have HP0 := Lib.hid hp0
    clear hp0 hk
    by_cases hv : 200 < pv.size
    · have hvi : (200 : Int) < (pv.size : Int) := by omega
      have hp4 : putK es ⟨pk, pv, pg⟩ = 4 := HP0.out.trans (if_pos (.inl hv))
      have HP4 := Lib.hid hp4
      clear hp4 hv
      go_wp2_with fail
      go_ret2
      exact ⟨⟨_, by rw [HP4.out]; rfl, HBAD.out 4 HP4.out (by decide), fun g hg => .inl hg⟩, e1⟩
    · have hvi : ¬ (200 : Int) < (pv.size : Int) := by omega
      cases hb : hasB es pk with
      | true =>
        have hp4 : putK es ⟨pk, pv, pg⟩ = 0 := HP0.out.trans (if_neg (by rintro (h | ⟨h, _⟩); exact hv h; rw [hb] at h; cases h))
        have HP4 := Lib.hid hp4
        have hrf : rfK es pk = (lowN es pk : Nat) := if_pos hb
        rw [hrf] at HF
        have hs : storeL es ⟨pk, pv, pg⟩ = putL es ⟨pk, pv, pg⟩ := if_pos hp4
        have HS := Lib.hid hs
        generalize lowN es pk = lo at *
        clear hp4 hv hrf hs hb
        go_wp2_with fail
        refine HF.out.mono ?_
        rintro _ _ ⟨rfl, rfl⟩
        go_wp2_with fail
        refine HW.out.mono ?_
        rintro _ w3 ⟨⟨v3, rfl, o3⟩, hb3⟩
        have HO3 := Lib.hid (own_lower o3 (Nat.le_trans hB e1.size))
        have HF3 : Hid (∀ g, v3.ownBlock = some g → w.heap.size ≤ g) := Lib.hid fun g hg => Nat.le_trans e1.size (own_block o3 g hg)
        clear o3
        go_wp2_with fail
        go_ret2
        exact ⟨⟨_, by rw [HP4.out]; rfl, by rw [HS.out]; exact HO3.out, fun g hg => .inr (HF3.out g hg)⟩, e1.trans hb3⟩
      | false =>
        have hrf : rfK es pk = -1 := if_neg (by rw [hb]; decide)
        rw [hrf] at HF
        by_cases h60 : 60 ≤ n
        · have hp4 : putK es ⟨pk, pv, pg⟩ = 4 := HP0.out.trans (if_pos (.inr ⟨hb, h60⟩))
          have HP4 := Lib.hid hp4
          have h60i : (60 : Int) ≤ (n : Int) := by omega
          clear hp4 hv hrf hb
          go_wp2_with fail
          refine HF.out.mono ?_
          rintro _ _ ⟨rfl, rfl⟩
          go_wp2_with fail
          go_ret2
          exact ⟨⟨_, by rw [HP4.out]; rfl, HBAD.out 4 HP4.out (by decide), fun g hg => .inl hg⟩, e1⟩
        · have hp4 : putK es ⟨pk, pv, pg⟩ = 0 := HP0.out.trans (if_neg (by rintro (h | ⟨_, h⟩); exact hv h; exact h60 h))
          have HP4 := Lib.hid hp4
          have hs : storeL es ⟨pk, pv, pg⟩ = putL es ⟨pk, pv, pg⟩ := if_pos hp4
          have HS := Lib.hid hs
          have h60i : ¬ (60 : Int) ≤ (n : Int) := by omega
          clear hp4 hv hrf hs hb
          go_wp2_with fail
          refine HF.out.mono ?_
          rintro _ _ ⟨rfl, rfl⟩
          go_wp2_with fail
          refine HW.out.mono ?_
          rintro _ w3 ⟨⟨v3, rfl, o3⟩, hb3⟩
          have HO3 := Lib.hid (own_lower o3 (Nat.le_trans hB e1.size))
          have HF3 : Hid (∀ g, v3.ownBlock = some g → w.heap.size ≤ g) := Lib.hid fun g hg => Nat.le_trans e1.size (own_block o3 g hg)
          clear o3
          go_wp2_with fail
          go_ret2
          exact ⟨⟨_, by rw [HP4.out]; rfl, by rw [HS.out]; exact HO3.out, fun g hg => .inr (HF3.out g hg)⟩, e1.trans hb3⟩
  · have hp4 : putK es ⟨pk, pv, pg⟩ = k := by
      unfold putK
      rw [if_pos (by rw [hk]; exact hk0), hk]
    have HP4 := Lib.hid hp4
    have HB4 := Lib.hid (HBAD.out k hp4 hk0)
    clear hp4 hk
    go_wp2_with fail
    go_ret2
    exact ⟨⟨_, by rw [HP4.out]; rfl, HB4.out, fun g hg => .inl hg⟩, e1⟩

set_option maxRecDepth 100000 in
theorem RSGet_any (A : Option Addr) (n c : Nat) (es : List Pr) (key : ByteArray) (w : World) (hr : Rd w 3 A n c (es.flatMap Pr.cells)) (hm : c ≤ maxLen) (ho : Asc es) :
    Calls Tryd.prog 44 #[.slice A n c, .string key] w fun e w' => e = .returned (.tuple #[.string (getV es key), .bool (isOk (getK es key))]) ∧ w = w' := by
  have hl := hr.2.1
  have HX := Lib.hid hr.lenP
  have HF := Lib.hid (RSFind_any A n c es key w hr hm ho)
  unfold maxLen at hm
  cases hb : hasB es key with
  | false =>
    have hg : getE es key = none := if_neg (by rw [hb]; decide)
    have hrf : rfK es key = -1 := if_neg (by rw [hb]; decide)
    have hv : getV es key = ⟨#[]⟩ := by unfold getV; rw [hg]; rfl
    have hk : getK es key = 5 := by unfold getK; rw [hg]; rfl
    rw [hv, hk]
    rw [hrf] at HF
    clear hg hrf hv hk hb
    go_enter Tryd.func44, Tryd.ntmps44
    go_wp2_with fail
    refine HF.out.mono ?_
    rintro _ _ ⟨rfl, rfl⟩
    go_wp2_with fail
    go_ret2
    exact ⟨rfl, rfl⟩
  | true =>
    obtain ⟨q, hq, hqk⟩ := has_get hb
    have hg : getE es key = some q := by unfold getE; rw [if_pos hb, hq]
    have hrf : rfK es key = (lowN es key : Nat) := if_pos hb
    rw [hrf] at HF
    have hll := (List.getElem?_eq_some_iff.1 hq).1
    rw [HX.out] at hll
    generalize lowN es key = lo at *
    obtain ⟨ad, rfl, hab, y0, y1, y2⟩ := hr.getP hq
    obtain ⟨qk, qv, qg⟩ := q
    simp only at y0 y1 y2
    cases qg with
    | true =>
      have hv : getV es key = ⟨#[]⟩ := by unfold getV; rw [hg]; rfl
      have hk : getK es key = 5 := by unfold getK; rw [hg]; rfl
      rw [hv, hk]
      clear hg hrf hv hk hb hq hqk
      go_enter Tryd.func44, Tryd.ntmps44
      go_wp2_with fail
      refine HF.out.mono ?_
      rintro _ _ ⟨rfl, rfl⟩
      go_wp2_with fail
      go_ret2
      exact ⟨rfl, rfl⟩
    | false =>
      have hv : getV es key = qv := by unfold getV; rw [hg]; rfl
      have hk : getK es key = 0 := by unfold getK; rw [hg]; rfl
      rw [hv, hk]
      clear hg hrf hv hk hb hq hqk
      go_enter Tryd.func44, Tryd.ntmps44
      go_wp2_with fail
      refine HF.out.mono ?_
      rintro _ _ ⟨rfl, rfl⟩
      go_wp2_with fail
      go_ret2
      exact ⟨rfl, rfl⟩
end Go.Proofs.YtnafegofmbhahaaDoor
