/- Prune: Learn and Forget. -/
import Derived.Test.YtcpnhmjibihpkaaPrune
import Derived.Test.YtcpnhmjibihpkaaGrown
import Derived.Deep.RegionHeld3
namespace Go.Proofs.Ytcpnhmjibihpkaa
open Go.RowKit Go.WideShapes
open Go.Maps (int_keyed keyOf_int_mk)
set_option linter.unusedVariables false
attribute [local go_sem ↓] Go.wp_at_zero Go.wp_at_succ

theorem own_map {w w' : World} {base n size mb : Nat} {e : TypeId} {v : Value} {xs : List Value} (h : w.ownsRow base e size v n xs) (hg : w.grownBy w' (some mb)) {es : Array MapEntry} {ck : Nat} (hm : w.heap[mb]? = some (.map es ck)) : w'.ownsRow base e size v n xs := by
  refine h.kept hg ?_
  rcases h.2 with ⟨rfl, _⟩ | ⟨g, cap, cur, rfl, _, hh, _⟩
  · exact .inl rfl
  · refine .inr fun e => ?_
    simp [Value.ownBlock] at e
    subst e
    rw [hm] at hh
    cases hh
theorem EntK.mapped {w w' : World} {base mb : Nat} {D : DataW Value} {i : Int} {x : Option (Int × List Int)} (h : EntK w base D i x) (hg : w.grownBy w' (some mb)) {es : Array MapEntry} {ck : Nat} (hm : w.heap[mb]? = some (.map es ck)) : EntK w' base D i x := by
  cases x with
  | none => exact h
  | some x =>
    obtain ⟨s, p⟩ := x
    obtain ⟨h1, v, h2, h3⟩ := h
    exact ⟨h1, v, h2, own_map h3 hg hm⟩
theorem kl_ne {i j : Int} (h : j ≠ i) : kl j ≠ kl i := fun e => by injection e with _ e; exact h e
theorem EntK.put {w : World} {base : Nat} {D : DataW Value} {i j : Int} {x : Option (Int × List Int)} (hj : j ≠ i) (d : DataW Value) (h : EntK w base D j x) : EntK w base (D.put (kl i) d) j x := by
  cases x with
  | none => exact (Maps.has_put_other (kl_ne hj) d).trans h
  | some x =>
    obtain ⟨s, p⟩ := x
    obtain ⟨h1, v, h2, h3⟩ := h
    exact ⟨(Maps.has_put_other (kl_ne hj) d).trans h1, v, fun z => (Maps.atKey_put_other (kl_ne hj) d z).trans (h2 z), h3⟩
theorem EntK.del {w : World} {base : Nat} {D : DataW Value} {i j : Int} {x : Option (Int × List Int)} (hj : j ≠ i) (h : EntK w base D j x) : EntK w base (D.del (kl i)) j x := by
  cases x with
  | none => exact (Maps.has_del_other (kl_ne hj)).trans h
  | some x =>
    obtain ⟨s, p⟩ := x
    obtain ⟨h1, v, h2, h3⟩ := h
    exact ⟨(Maps.has_del_other (kl_ne hj)).trans h1, v, fun z => (Maps.atKey_del_other (kl_ne hj) z).trans (h2 z), h3⟩
theorem EntK.hasK {w : World} {base : Nat} {D : DataW Value} {i : Int} {x : Option (Int × List Int)} (h : EntK w base D i x) : Maps.has D (kl i) = x.isSome := by
  cases x with
  | none => exact h
  | some x => exact h.1
def cntL (K : Kn) (i : Int) (cnt : Nat) : Nat := if (K i).isSome then cnt else cnt + 1

/-- a leaf was stored -/
theorem Tr.put {w : World} {base tb mb N cnt : Nat} {size root : Int} {K : Kn} (h : Tr w base tb mb size root N K cnt) (hN : N < 1000000) {i s : Int} {p : List Int} {v : Value} (hi : (kl i).wf = true) (hv : w.ownsRow base 3 1 v p.length (p.map (Value.int .i64))) :
    ∃ w', (Instr.mapUpdate 129 (.map (some mb)) (.int .i64 i) (.agg #[.int .i64 s, v])).run Try.prog w = .ok () w' ∧ Tr w' base tb mb size root (N + 1) (K.set i (some (s, p))) (cntL K i cnt) ∧ w.grownBy w' (some mb) := by
  obtain ⟨D, h1, h2, h3⟩ := h.ex
  have hK := int_keyed (P := Try.prog) Try.underlying3
  have hkey := keyOf_int_mk (P := Try.prog) Try.underlying3 hi
  obtain ⟨w', hrun, hown, ht⟩ := h1.store (t := 129) (e := 133) hK Try.underlying129 (by simp only [maxLen]; omega) hkey (val := .agg #[.int .i64 s, v]) (d := .held (.agg #[.int .i64 s, v])) (ps := []) rfl
  have hg := ht.grown
  obtain ⟨es, ck, hb, _⟩ := id h1
  refine ⟨w', hrun, ⟨h.le1, h.le2, h.bk.kept hg ?_, D.put (kl i) (.held (.agg #[.int .i64 s, v])), hown, ?_, fun j hj => ?_⟩, hg⟩
  · intro e
    injection e with e
    have := h.bk
    unfold Bk at this
    rw [← e, hb] at this
    cases this
  · rw [Maps.size_put (h1.tidy hK), (h3 i hi).hasK, h2]
    rfl
  · by_cases hji : j = i
    · subst hji
      have e1 : (K.set j (some (s, p))) j = some (s, p) := if_pos rfl
      rw [e1]
      exact ⟨Maps.has_put_same h1.isMap (hK.key hkey) _, v, fun z => Maps.atKey_put_same h1.isMap (hK.key hkey) _ z, own_map hv hg hb⟩
    · have e1 : (K.set i (some (s, p))) j = K j := if_neg hji
      rw [e1]
      exact ((h3 j hj).mapped hg hb).put hji _
/-- a leaf was struck -/
theorem Tr.del {w : World} {base tb mb N cnt : Nat} {size root : Int} {K : Kn} (h : Tr w base tb mb size root N K cnt) {i : Int} (hi : (kl i).wf = true) (ty : TypeId) :
    ∃ w', (Builtin.delete_ #[129, 3] ty #[.map (some mb), .int .i64 i]).run Try.prog w = .ok (.tuple #[]) w' ∧ Tr w' base tb mb size root N (K.set i none) (cnt - (if (K i).isSome then 1 else 0)) ∧ w.grownBy w' (some mb) := by
  obtain ⟨D, h1, h2, h3⟩ := h.ex
  have hK := int_keyed (P := Try.prog) Try.underlying3
  have hkey := keyOf_int_mk (P := Try.prog) Try.underlying3 hi
  obtain ⟨w', hrun, hown, ht⟩ := h1.drop (t := 129) (e := 133) hK Try.underlying129 hkey ty
  have hg := ht.grown
  obtain ⟨es, ck, hb, _⟩ := id h1
  refine ⟨w', hrun, ⟨h.le1, h.le2, h.bk.kept hg ?_, D.del (kl i), hown, ?_, fun j hj => ?_⟩, hg⟩
  · intro e
    injection e with e
    have := h.bk
    unfold Bk at this
    rw [← e, hb] at this
    cases this
  · have := Maps.size_del (k := kl i) (h1.tidy hK)
    rw [(h3 i hi).hasK, h2] at this
    omega
  · by_cases hji : j = i
    · subst hji
      have e1 : (K.set j none) j = none := if_pos rfl
      rw [e1]
      exact Maps.has_del_same
    · have e1 : (K.set i none) j = K j := if_neg hji
      rw [e1]
      exact ((h3 j hj).mapped hg hb).del hji

set_option maxRecDepth 100000 in
theorem Forget_ok {w : World} {base tb mb N cnt : Nat} {size root : Int} {K : Kn} (h : Tr w base tb mb size root N K cnt) (i : Int) (hs : size ≤ 200) (hk : fdK size K i = 0) (hi : (kl i).wf = true) :
    Calls Try.prog 56 #[.pointer (some ⟨tb, 0, none⟩), .int .i64 i] w fun e w' => e = .returned .nilIface ∧ Tr w' base tb mb size root N (K.set i none) (cnt - 1) ∧ w.grownBy w' (some mb) := by
  have hsome : (K i).isSome = true := by
    unfold fdK at hk
    by_cases h1 : 0 ≤ i ∧ i < size
    · rw [if_pos h1] at hk
      cases hx : K i with
      | none => rw [hx] at hk; cases hk
      | some x => rfl
    · rw [if_neg h1] at hk; cases hk
  go_enter Try.func56, Try.ntmps56
  go_wp2_with fail
  refine (find_any h i hs).mono ?_
  rw [hk]
  rintro _ w1 ⟨⟨u, rfl, ho⟩, hb1⟩
  obtain ⟨A4, c4, rfl, -, -, -⟩ := own_rd ho
  have X1 : Ext w (w1.alloc (.cells #[.int .i64 (knS size K i), .slice A4 (knP size K i).length c4] 133)) := by (repeat (with_reducible first | exact Ext.refl _ | assumption | refine Ext.drew ?_ | refine Ext.drewN ?_ _ | refine Ext.alloc ?_ _ | refine Ext.trans ?_ (by with_reducible assumption)))
  have h2 := h.ext X1
  obtain ⟨w3, hrun, h3, hg3⟩ := h2.del hi 0
  have b2 := h2.bk.cell 2
  simp only [errR_0]
  go_wp2_with fail
  go_ret
  rw [if_pos hsome] at h3
  exact ⟨rfl, h3, X1.gbt hg3⟩

set_option maxRecDepth 100000 in
set_option maxHeartbeats 2000000 in
theorem Learn_ok {w : World} {base tb mb N cnt : Nat} {size root : Int} {K : Kn} (h : Tr w base tb mb size root N K cnt) (hN : N < 1000000) (i s : Int) (A : Option Addr) (m c : Nat) (p : List Int) (hr : Rd w 1 A m c (p.map (Value.int .i64))) (hm : c ≤ maxLen) (hl : m ≤ 4096)
    (hb : base ≤ w.heap.size) (hc : pcheck root size i s p = 0) (hK : K i = none ∨ ∃ q, K i = some (s, q)) (hi : (kl i).wf = true) :
    Calls Try.prog 52 #[.pointer (some ⟨tb, 0, none⟩), .int .i64 i, .int .i64 s, .slice A m c] w fun e w' => e = .returned .nilIface ∧ Tr w' base tb mb size root (N + 1) (K.set i (some (s, p))) (cntL K i cnt) ∧ w.grownBy w' (some mb) := by
  have b0 := h.bk.cell 0
  have b1 := h.bk.cell 1
  have HC := Lib.hid hc
  go_enter Try.func52, Try.ntmps52
  go_wp2_with fail
  go_region_held3 (fun W => W.cell? ⟨tb, 0, none⟩ = some (.int .i64 size) ∧ W.cell? ⟨tb, 1, none⟩ = some (.int .i64 root)) (first | exact ⟨b0, b1⟩ | exact ⟨(h.bk.ext (by (repeat (with_reducible first | exact Ext.refl _ | assumption | refine Ext.drew ?_ | refine Ext.drewN ?_ _ | refine Ext.alloc ?_ _ | refine Ext.trans ?_ (by with_reducible assumption))))).cell 0, (h.bk.ext (by (repeat (with_reducible first | exact Ext.refl _ | assumption | refine Ext.drew ?_ | refine Ext.drewN ?_ _ | refine Ext.alloc ?_ _ | refine Ext.trans ?_ (by with_reducible assumption))))).cell 1⟩) (first
    | (go_at_call 35; (with_reducible refine (PCheck_any root size i s A m c p _ (hr.ext (by (repeat (with_reducible first | exact Ext.refl _ | assumption | refine Ext.drew ?_ | refine Ext.drewN ?_ _ | refine Ext.alloc ?_ _ | refine Ext.trans ?_ (by with_reducible assumption))))) hm).mono ?_); rw [HC.out]; rintro _ w1 ⟨rfl, hb1⟩)
    | fail)
  have X1 : Ext w w1 := by (repeat (with_reducible first | exact Ext.refl _ | assumption | refine Ext.drew ?_ | refine Ext.drewN ?_ _ | refine Ext.alloc ?_ _ | refine Ext.trans ?_ (by with_reducible assumption)))
  have h1 := h.ext X1
  have b2 := h1.bk.cell 2
  obtain ⟨D, d1, d2, d3⟩ := h1.ex
  obtain ⟨v, b, hrun, hcs⟩ := look_run d1 hi (d3 i hi)
  clear b0 b1 d1 d2 d3
  simp only [errR_0]
  rcases hcs with ⟨hx, rfl, rfl⟩ | ⟨s', q, u, hx, rfl, rfl, ho⟩
  · skip
    go_wp2_with fail
    have X2 : Ext w (w1.alloc (.cells #[.int .i64 0, .slice none 0 0] 133)) := X1.alloc _
    have h2 := h1.ext (Ext.alloc (Ext.refl w1) (.cells #[.int .i64 0, .slice none 0 0] 133))
    generalize w1.alloc (.cells #[.int .i64 0, .slice none 0 0] 133) = w2 at *
    have c2 := h2.bk.cell 2
    go_region_held3 (fun W => W.cell? ⟨tb, 2, none⟩ = some (.map (some mb))) (first | exact c2 | exact h5.bk.cell 2 | exact (h2.bk.ext (by (repeat (with_reducible first | exact Ext.refl _ | assumption | refine Ext.drew ?_ | refine Ext.drewN ?_ _ | refine Ext.alloc ?_ _ | refine Ext.trans ?_ (by with_reducible assumption))))).cell 2) (first
      | (go_at_call 86; (with_reducible refine (Clone_rd (hr.ext (Ext.trans X2 (by (repeat (with_reducible first | exact Ext.refl _ | assumption | refine Ext.drew ?_ | refine Ext.drewN ?_ _ | refine Ext.alloc ?_ _ | refine Ext.trans ?_ (by with_reducible assumption)))))) hl).mono ?_); rintro _ w4 ⟨⟨v4, rfl, o4⟩, hb4⟩; obtain ⟨A4, c4, rfl, -, -, -⟩ := own_rd o4; have h4 := h2.ext (show Ext w2 w4 by (repeat (with_reducible first | exact Ext.refl _ | assumption | refine Ext.drew ?_ | refine Ext.drewN ?_ _ | refine Ext.alloc ?_ _ | refine Ext.trans ?_ (by with_reducible assumption)))); obtain ⟨w5, hrun5, h5, hg5⟩ := h4.put hN (s := s) hi (own_lower o4 (by have := X2.size; simp; omega)))
      | fail)
    go_wp2_with fail
    go_ret
    exact ⟨rfl, h5, Ext.gbt (show Ext w w4 by (repeat (with_reducible first | exact Ext.refl _ | assumption | refine Ext.drew ?_ | refine Ext.drewN ?_ _ | refine Ext.alloc ?_ _ | refine Ext.trans ?_ (by with_reducible assumption)))) hg5⟩
  · obtain rfl : s' = s := by
      rcases hK with h0 | ⟨q0, h0⟩
      · rw [h0] at hx; cases hx
      · rw [h0] at hx; injection hx with hx; injection hx with hx; exact hx.symm
    obtain ⟨A3, c3, rfl, -, -, -⟩ := own_rd ho
    go_wp2_with fail
    have X2 : Ext w (w1.alloc (.cells #[.int .i64 s', .slice A3 q.length c3] 133)) := X1.alloc _
    have h2 := h1.ext (Ext.alloc (Ext.refl w1) (.cells #[.int .i64 s', .slice A3 q.length c3] 133))
    generalize w1.alloc (.cells #[.int .i64 s', .slice A3 q.length c3] 133) = w2 at *
    have c2 := h2.bk.cell 2
    go_region_held3 (fun W => W.cell? ⟨tb, 2, none⟩ = some (.map (some mb))) (first | exact c2 | exact h5.bk.cell 2 | exact (h2.bk.ext (by (repeat (with_reducible first | exact Ext.refl _ | assumption | refine Ext.drew ?_ | refine Ext.drewN ?_ _ | refine Ext.alloc ?_ _ | refine Ext.trans ?_ (by with_reducible assumption))))).cell 2) (first
      | (go_at_call 86; (with_reducible refine (Clone_rd (hr.ext (Ext.trans X2 (by (repeat (with_reducible first | exact Ext.refl _ | assumption | refine Ext.drew ?_ | refine Ext.drewN ?_ _ | refine Ext.alloc ?_ _ | refine Ext.trans ?_ (by with_reducible assumption)))))) hl).mono ?_); rintro _ w4 ⟨⟨v4, rfl, o4⟩, hb4⟩; obtain ⟨A4, c4, rfl, -, -, -⟩ := own_rd o4; have h4 := h2.ext (show Ext w2 w4 by (repeat (with_reducible first | exact Ext.refl _ | assumption | refine Ext.drew ?_ | refine Ext.drewN ?_ _ | refine Ext.alloc ?_ _ | refine Ext.trans ?_ (by with_reducible assumption)))); obtain ⟨w5, hrun5, h5, hg5⟩ := h4.put hN (s := s') hi (own_lower o4 (by have := X2.size; simp; omega)))
      | fail)
    go_wp2_with fail
    go_ret
    exact ⟨rfl, h5, Ext.gbt (show Ext w w4 by (repeat (with_reducible first | exact Ext.refl _ | assumption | refine Ext.drew ?_ | refine Ext.drewN ?_ _ | refine Ext.alloc ?_ _ | refine Ext.trans ?_ (by with_reducible assumption)))) hg5⟩
theorem Tr.step {w0 w w' : World} {base tb mb N cnt : Nat} {size root : Int} {K : Kn} (h : Tr w base tb mb size root N K cnt) (hw : Ext w0 w) (hb : w0.heap.size ≤ base) (h2 : w.grownBy w' (some mb)) : Ext w0 w' :=
  hw.gbn h2 (Nat.le_trans hb h.le2)
end Go.Proofs.Ytcpnhmjibihpkaa
