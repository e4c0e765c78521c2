/- table.First and Last. -/
import Derived.Test.YtnafegofmbhahaaDoorTab7
import Derived.BigQuiet
namespace Go.Proofs.YtnafegofmbhahaaDoor
open Go.RowKit Go.WideShapes
set_option linter.unusedVariables false
attribute [local go_sem ↓] Go.wp_at_zero Go.wp_at_succ

def kAt (es : List Pr) (i : Nat) : ByteArray := match es[i]? with | some p => p.key | none => ⟨#[]⟩
theorem kAt_nil (i : Nat) : kAt [] i = ⟨#[]⟩ := rfl
theorem kAt_some {es : List Pr} {i : Nat} {p : Pr} (h : es[i]? = some p) : kAt es i = p.key := by unfold kAt; rw [h]

set_option maxRecDepth 100000 in
theorem TFirst_any (B tb : Nat) (v : Value) (es : List Pr) (w : World) (h : TbAt w B tb v es) :
    Calls Tryd.prog 17 #[.pointer (some ⟨tb, 0, none⟩)] w fun e w' => e = .returned (.string (kAt es 0)) ∧ Ext w w' := by
  obtain ⟨n, hn⟩ : ∃ n, es.length = n := ⟨_, rfl⟩
  have ow := h.own
  rw [hn] at ow
  obtain ⟨A, c, rfl, hc, hr, hnil⟩ := own_rd ow
  have hl := hr.2.1
  have s0 : w.cell? ⟨tb, 0, none⟩ = some (.slice A n c) := h.bk.cell 0
  have hn60 : n ≤ 200000000 := by rw [← hn]; exact h.len
  by_cases hz : n = 0
  · have hk : kAt es 0 = ⟨#[]⟩ := by rw [List.length_eq_zero_iff.1 (hn.trans hz)]; rfl
    rw [hk]
    subst hz
    clear hk hn hr hnil ow h
    go_enter Tryd.func17, Tryd.ntmps17
    go_wp2_with fail
    go_ret
    exact ⟨rfl, Ext.refl _⟩
  · obtain ⟨p, hp⟩ : ∃ p, es[0]? = some p := ⟨_, List.getElem?_eq_getElem (by omega)⟩
    obtain ⟨ad, rfl, hb, c0, c1, c2⟩ := hr.getP hp
    rw [kAt_some hp]
    obtain ⟨pk, pv, pg⟩ := p
    simp only at c0 c1 c2
    have hnz : ¬ (n : Int) = 0 := by omega
    have hnp : 0 < n := by omega
    have d0 : w.cell? ad = some (.string pk) := by
      have h0 : ad.add (0 * 3) = ad := by cases ad; rfl
      rwa [h0] at c0
    clear hn hr hnil ow h hp hz c0 c1 c2
    go_enter Tryd.func17, Tryd.ntmps17
    go_wp2_with fail
    go_ret
    exact ⟨rfl, Ext.refl _⟩

set_option maxRecDepth 100000 in
theorem TLast_any (B tb : Nat) (v : Value) (es : List Pr) (w : World) (h : TbAt w B tb v es) :
    Calls Tryd.prog 18 #[.pointer (some ⟨tb, 0, none⟩)] w fun e w' => e = .returned (.string (kAt es (es.length - 1))) ∧ Ext w w' := by
  obtain ⟨n, hn⟩ : ∃ n, es.length = n := ⟨_, rfl⟩
  have ow := h.own
  rw [hn] at ow
  obtain ⟨A, c, rfl, hc, hr, hnil⟩ := own_rd ow
  have hl := hr.2.1
  have s0 : w.cell? ⟨tb, 0, none⟩ = some (.slice A n c) := h.bk.cell 0
  have hn60 : n ≤ 200000000 := by rw [← hn]; exact h.len
  by_cases hz : n = 0
  · have hk : kAt es (es.length - 1) = ⟨#[]⟩ := by rw [List.length_eq_zero_iff.1 (hn.trans hz)]; rfl
    rw [hk]
    subst hz
    clear hk hn hr hnil ow h
    go_enter Tryd.func18, Tryd.ntmps18
    go_wp2_with fail
    go_ret
    exact ⟨rfl, Ext.refl _⟩
  · obtain ⟨p, hp⟩ : ∃ p, es[es.length - 1]? = some p := ⟨_, List.getElem?_eq_getElem (by omega)⟩
    rw [kAt_some hp]
    rw [hn] at hp
    obtain ⟨ad, rfl, hb, c0, c1, c2⟩ := hr.getP hp
    obtain ⟨pk, pv, pg⟩ := p
    simp only at c0 c1 c2
    have w1 : IntKind.i64.wrap ((n : Int) - 1) = ((n - 1 : Nat) : Int) := by rw [IntWalk.i64_in _ (by omega)]; omega
    have i1 : n - 1 < n := by omega
    obtain ⟨m, hm⟩ : ∃ m, n - 1 = m := ⟨_, rfl⟩
    rw [hm] at c0 c1 c2 w1 i1
    have hnz : ¬ (n : Int) = 0 := by omega
    clear hn hr hnil ow h hp hz
    go_enter Tryd.func18, Tryd.ntmps18
    go_wp2_with fail
    go_quiet (fail)
    go_wp2_with fail
    go_ret
    exact ⟨rfl, by (repeat (with_reducible first | exact Ext.refl _ | assumption | refine Ext.drew ?_ | refine Ext.drewN ?_ _ | refine Ext.alloc ?_ _ | refine Ext.trans ?_ (by with_reducible assumption)))⟩
end Go.Proofs.YtnafegofmbhahaaDoor
