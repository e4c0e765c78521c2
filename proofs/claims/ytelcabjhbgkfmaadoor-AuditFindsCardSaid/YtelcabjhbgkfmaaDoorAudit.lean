import Derived.Test.YtelcabjhbgkfmaaDoorSome
import Derived.Test.YtelcabjhbgkfmaaDoorSums
namespace Go.Proofs.YtelcabjhbgkfmaaDoor
open Go.RowKit
set_option linter.unusedVariables false
attribute [local go_sem ↓] Go.wp_at_zero Go.wp_at_succ

theorem info_ints : (Tryd.prog.info? 53).map (fun i => (i.zero, i.size, i.bytes)) = some (some (.slice none 0 0), 1, 24) := by kernel_rfl
theorem oneS {A : Option Addr} {n c : Nat} : ∀ u ∈ [Value.slice A n c], u.oneCell' = true := by intro u hu; simp at hu; subst hu; rfl
/-- rows as wide as tiles -/
def wideAs (ts : List Tl) (vs : List Value) : Prop := vs.length ≤ ts.length ∧ ∀ (i : Nat) (v : Value), vs[i]? = some v → ∃ (A : Option Addr) (m c : Nat) (t : Tl), ts[i]? = some t ∧ v = .slice A m c ∧ t.wide = (m : Int)
theorem wideAs_snoc {ts : List Tl} {vs : List Value} {A : Option Addr} {m c : Nat} {t : Tl} (h : wideAs ts vs) (ht : ts[vs.length]? = some t) (hw : t.wide = (m : Int)) : wideAs ts (vs ++ [.slice A m c]) := by
  refine ⟨by have := (List.getElem?_eq_some_iff.1 ht).1; simp; omega, fun i v hv => ?_⟩
  by_cases hi : i < vs.length
  · rw [List.getElem?_append_left hi] at hv
    exact h.2 i v hv
  · rw [List.getElem?_append_right (by omega)] at hv
    have h0 : i - vs.length = 0 := by
      rcases Nat.eq_zero_or_pos (i - vs.length) with e | e
      · exact e
      · rw [List.getElem?_eq_none (by simp; omega)] at hv; cases hv
    rw [h0] at hv
    obtain rfl : Value.slice A m c = v := by simpa using hv
    obtain rfl : i = vs.length := by omega
    exact ⟨A, m, c, t, ht, rfl, hw⟩

set_option maxRecDepth 100000 in
set_option maxHeartbeats 2000000 in
theorem ATiles_ok (A : Option Addr) (n c : Nat) (es : List Ent) (w : World) (hr : Rd w 2 A n c (es.flatMap Ent.cells)) (hm : c ≤ maxLen) (hk : entsOk es) :
    Calls Tryd.prog 28 #[.slice A n c] w fun e w' => (∃ v vs, e = .returned (.tuple #[v, .nilIface]) ∧ w'.ownsRow w.heap.size 53 1 v (allT n 4).length vs ∧ wideAs (allT n 4) vs) ∧ Ext w w' := by
  have hx := hr.lenE
  have hn : n ≤ 200 := by have := hk.1; omega
  obtain ⟨T, hT⟩ : ∃ T, T = allT n 4 := ⟨_, rfl⟩
  have hlo : leafsOk (es.map Ent.leaf) := ⟨by rw [List.length_map]; omega, by
    unfold allV
    rw [List.all_eq_true]
    intro x hx
    rw [List.mem_map] at hx
    obtain ⟨e, _, rfl⟩ := hx
    exact vld_sum _⟩
  have hll := allT_len n hn 4
  rw [← hT] at hll ⊢
  have HM := Lib.hid (allT_mem n 4)
  rw [← hT] at HM
  have HTT := Lib.hid hT
  clear hT
  have HX := Lib.hid hx
  have HK := Lib.hid hk
  clear hx hk
  obtain ⟨i0, hi0, hz0, hz1, hz2⟩ := info_parts info_ints
  go_enter Tryd.func28, Tryd.ntmps28
  go_wp2_with fail
  refine (Leafs_ok A n c es _ hr hm HK.out).mono ?_
  rintro _ w0 ⟨⟨v0, rfl, own0⟩, hb0⟩
  rw [HX.out] at own0
  obtain ⟨A0, c0, rfl, hc0, R0, _⟩ := own_rd own0
  generalize es.map Ent.leaf = xs at *
  go_wp2_with fail
  refine (AllOf_any n _ hn).mono ?_
  rintro _ w1 ⟨⟨v1, rfl, own1⟩, hb1⟩
  rw [← HTT.out] at own1
  obtain ⟨A1, c1, rfl, hc1, R1, _⟩ := own_rd own1
  have E1 : Ext w w1 := by (repeat (with_reducible first | exact Ext.refl _ | assumption | refine Ext.drew ?_ | refine Ext.drewN ?_ _ | refine Ext.alloc ?_ _ | refine Ext.trans ?_ (by with_reducible assumption)))
  have R0' := R0.ext hb1
  have hE1 := E1.size
  clear own0 own1 R0 hb0 hb1
  go_wp2_with fail
  go_loopw [6, 21] (fun v x wr => ∃ (j : Nat) (vs : List Value), x = .int .i64 j ∧ j ≤ T.length ∧ Ext w1 wr ∧ Hid (wr.ownsRow w1.heap.size 53 1 v j vs) ∧ Hid (wideAs T vs)) (fun _ x _ => T.length - (intOf x).toNat)
  case atStart => exact ⟨0, [], rfl, Nat.zero_le _, by (repeat (with_reducible first | exact Ext.refl _ | assumption | refine Ext.drew ?_ | refine Ext.drewN ?_ _ | refine Ext.alloc ?_ _ | refine Ext.trans ?_ (by with_reducible assumption))), own_nil _ _ _ _, ⟨Nat.zero_le _, fun i v h => by simp at h⟩⟩
  case round =>
    obtain ⟨j, vs, rfl, hj, hbw, hown, hwide⟩ := hrel
    by_cases hc : j < T.length
    · have hgj := List.getElem?_eq_getElem (l := T) (i := j) hc
      obtain ⟨k, i, m, k1, k2, k3, k4, k5⟩ := HM.out _ (List.mem_of_getElem? hgj)
      obtain ⟨ad, rfl, hb, d0, d1, d2⟩ := (R1.ext hbw).getT hgj
      rw [k2] at hgj d0 d1 d2
      have hvl : vs.length = j := by have := own_len hown.out; omega
      have hbw0 := hbw.size
      go_wp2_with fail
      refine (SumsOf_any A0 n c0 xs k i m _ (by exact R0'.ext (by (repeat (with_reducible first | exact Ext.refl _ | assumption | refine Ext.drew ?_ | refine Ext.drewN ?_ _ | refine Ext.alloc ?_ _ | refine Ext.trans ?_ (by with_reducible assumption))))) hc0 hlo (by omega) k4 k5).mono ?_
      rintro _ w2 ⟨⟨v2, rfl, own2⟩, hb2⟩
      obtain ⟨A2, c2, rfl, hc2, R2, _⟩ := own_rd own2
      rw [sumsT_len]
      have hw2 := wideAs_snoc (A := A2) (m := m) (c := c2) hwide.out (by rw [hvl]; exact hgj) rfl
      have HW2 := Lib.hid hw2
      have hs2 := hb2.size
      have hT4 : T.length ≤ 204 := by omega
      clear own2 R2 hw2
      go_wp2_with (at_builtin; refine wpl_app (by rfl) _ _ _ (by rfl) w1.heap.size 53 i0 _ 1 24 Tryd.underlying48 hi0 hz0 hz1 hz2 rfl (by omega) u6 _ _ (by rfl) ((own_ext hown.out (by (repeat (with_reducible first | exact Ext.refl _ | assumption | refine Ext.drew ?_ | refine Ext.drewN ?_ _ | refine Ext.alloc ?_ _ | refine Ext.trans ?_ (by with_reducible assumption))))).alloc _) w2.heap.size 1 [.slice A2 m c2] rfl (by rfl) (news_new w2 _ _ _ rfl) oneS (by omega) (by omega) (by simp at hs2 ⊢; omega) ?_; intro g cap w3 own3 hext3)
      go_roundw
      case rel => exact ⟨j + 1, _, by go_num, by omega, hext3 _ (Nat.le_refl _) (by (repeat (with_reducible first | exact Ext.refl _ | assumption | refine Ext.drew ?_ | refine Ext.drewN ?_ _ | refine Ext.alloc ?_ _ | refine Ext.trans ?_ (by with_reducible assumption)))), own3, HW2⟩
      case measure => simp [intOf]; omega
    · obtain rfl : j = T.length := by omega
      go_wp2_with fail
      go_ret2
      exact ⟨⟨_, _, rfl, own_lower hown.out hE1, hwide.out⟩, E1.trans (by (repeat (with_reducible first | exact Ext.refl _ | assumption | refine Ext.drew ?_ | refine Ext.drewN ?_ _ | refine Ext.alloc ?_ _ | refine Ext.trans ?_ (by with_reducible assumption))))⟩
end Go.Proofs.YtelcabjhbgkfmaaDoor
