import Derived.Test.YtgfkalhpefjenaaDoorTileRd
namespace Go.Proofs.YtgfkalhpefjenaaDoor
open Go.RowKit Go.WideShapes
set_option linter.unusedVariables false
attribute [local go_sem ↓] Go.wp_at_zero Go.wp_at_succ

set_option maxRecDepth 100000 in
theorem TSums_ok (A : Option Addr) (n c : Nat) (xs : List Int) (k i m : Nat) (w : World) (hr : Rd w 1 A n c (xs.map (Value.int .i64))) (hm : c ≤ maxLen) (hk : leafsOk xs) (hk3 : k ≤ 3) (h1 : 1 ≤ m) (hm4 : m ≤ 4) (hf : i * 4 + m ≤ n / 4 ^ k) :
    Calls Tryd.prog 51 #[.slice A n c, .agg #[.int .i64 k, .int .i64 i, .int .i64 m]] w fun e w' => (∃ v, e = .returned (.tuple #[v, .nilIface]) ∧ OwnN w w' v (sumsT xs k i m)) ∧ Ext w w' := by
  have hx := hr.lenI
  have hn : n ≤ 200 := by have := hk.1; omega
  have hq := div4_le n k
  have HK := Lib.hid hk
  have HM := Lib.hid fun W => many_any n k W hn (by omega)
  have HF := Lib.hid hf
  generalize n / 4 ^ k = q at hf hq HM
  clear hx hk
  have B0 : Bk (w.alloc (.cells #[.int .i64 k, .int .i64 i, .int .i64 m] 30)) w.heap.size 30 #[.int .i64 k, .int .i64 i, .int .i64 m] := Bk.at_ _ _ _ _ rfl
  have q0 := B0.cell 0
  have q1 := B0.cell 1
  have q2 := B0.cell 2
  have e1 : (i : Int) ≤ (q : Int) := by omega
  have e2 : (i : Int) * 4 + (m : Int) ≤ (q : Int) := by omega
  have e3 : (i : Int) ≤ 200 := by omega
  go_enter Tryd.func51, Tryd.ntmps51
  go_wp2_with fail
  refine (TCheck_ok A n c xs _ (hr.ext (by (repeat (with_reducible first | exact Ext.refl _ | assumption | refine Ext.drew ?_ | refine Ext.drewN ?_ _ | refine Ext.alloc ?_ _ | refine Ext.trans ?_ (by with_reducible assumption))))) hm hn HK.out.2).mono ?_
  rintro e w' ⟨rfl, rfl⟩
  go_wp2_with fail
  refine (HM.out _).mono ?_
  rintro e w' ⟨rfl, rfl⟩
  go_wp2_with fail
  refine (SumsOf_any A n c xs k i m _ (hr.ext (by (repeat (with_reducible first | exact Ext.refl _ | assumption | refine Ext.drew ?_ | refine Ext.drewN ?_ _ | refine Ext.alloc ?_ _ | refine Ext.trans ?_ (by with_reducible assumption))))) hm HK.out hk3 hm4 HF.out).mono ?_
  rintro e w1 ⟨⟨v, rfl, hv⟩, hb1⟩
  go_wp2_with fail
  go_ret2
  exact ⟨⟨_, rfl, own_lower hv (by simp)⟩, by (repeat (with_reducible first | exact Ext.refl _ | assumption | refine Ext.drew ?_ | refine Ext.drewN ?_ _ | refine Ext.alloc ?_ _ | refine Ext.trans ?_ (by with_reducible assumption)))⟩

set_option maxRecDepth 100000 in
theorem TSums_none (A : Option Addr) (n c : Nat) (xs : List Int) (k i m : Nat) (w : World) (hr : Rd w 1 A n c (xs.map (Value.int .i64))) (hm : c ≤ maxLen) (hk : leafsOk xs) (hk3 : k ≤ 3) (h1 : 1 ≤ m) (hm4 : m ≤ 4) (hf : n / 4 ^ k < i * 4 + m) :
    Calls Tryd.prog 51 #[.slice A n c, .agg #[.int .i64 k, .int .i64 i, .int .i64 m]] w fun e w' => e = .returned (.tuple #[.slice none 0 0, errV 5]) ∧ Ext w w' := by
  have hx := hr.lenI
  have hn : n ≤ 200 := by have := hk.1; omega
  have hq := div4_le n k
  have HK := Lib.hid hk
  have HM := Lib.hid fun W => many_any n k W hn (by omega)
  generalize n / 4 ^ k = q at *
  clear hx hk
  have B0 : Bk (w.alloc (.cells #[.int .i64 k, .int .i64 i, .int .i64 m] 30)) w.heap.size 30 #[.int .i64 k, .int .i64 i, .int .i64 m] := Bk.at_ _ _ _ _ rfl
  have q0 := B0.cell 0
  have q1 := B0.cell 1
  have q2 := B0.cell 2
  by_cases hi : i ≤ q
  · have e1 : (i : Int) ≤ (q : Int) := by omega
    have e2 : (q : Int) < (i : Int) * 4 + (m : Int) := by omega
    have e3 : (i : Int) ≤ 200 := by omega
    clear hf
    go_enter Tryd.func51, Tryd.ntmps51
    go_wp2_with fail
    refine (TCheck_ok A n c xs _ (hr.ext (by (repeat (with_reducible first | exact Ext.refl _ | assumption | refine Ext.drew ?_ | refine Ext.drewN ?_ _ | refine Ext.alloc ?_ _ | refine Ext.trans ?_ (by with_reducible assumption))))) hm hn HK.out.2).mono ?_
    rintro e w' ⟨rfl, rfl⟩
    go_wp2_with fail
    refine (HM.out _).mono ?_
    rintro e w' ⟨rfl, rfl⟩
    go_wp2_with fail
    go_ret2
    exact ⟨rfl, by (repeat (with_reducible first | exact Ext.refl _ | assumption | refine Ext.drew ?_ | refine Ext.drewN ?_ _ | refine Ext.alloc ?_ _ | refine Ext.trans ?_ (by with_reducible assumption)))⟩
  · have e1 : (q : Int) < (i : Int) := by omega
    clear hf hi
    go_enter Tryd.func51, Tryd.ntmps51
    go_wp2_with fail
    refine (TCheck_ok A n c xs _ (hr.ext (by (repeat (with_reducible first | exact Ext.refl _ | assumption | refine Ext.drew ?_ | refine Ext.drewN ?_ _ | refine Ext.alloc ?_ _ | refine Ext.trans ?_ (by with_reducible assumption))))) hm hn HK.out.2).mono ?_
    rintro e w' ⟨rfl, rfl⟩
    go_wp2_with fail
    refine (HM.out _).mono ?_
    rintro e w' ⟨rfl, rfl⟩
    go_wp2_with fail
    go_ret2
    exact ⟨rfl, by (repeat (with_reducible first | exact Ext.refl _ | assumption | refine Ext.drew ?_ | refine Ext.drewN ?_ _ | refine Ext.alloc ?_ _ | refine Ext.trans ?_ (by with_reducible assumption)))⟩

set_option maxRecDepth 100000 in
theorem TSums_range (A : Option Addr) (n c : Nat) (xs : List Int) (k i m : Int) (w : World) (hr : Rd w 1 A n c (xs.map (Value.int .i64))) (hm : c ≤ maxLen) (hk : leafsOk xs) (h : ¬ (0 ≤ k ∧ k ≤ 3 ∧ 0 ≤ i ∧ 1 ≤ m ∧ m ≤ 4)) :
    Calls Tryd.prog 51 #[.slice A n c, .agg #[.int .i64 k, .int .i64 i, .int .i64 m]] w fun e w' => e = .returned (.tuple #[.slice none 0 0, errV 1]) ∧ Ext w w' := by
  have hx := hr.lenI
  have hn : n ≤ 200 := by have := hk.1; omega
  have HK := Lib.hid hk
  clear hx hk
  have B0 : Bk (w.alloc (.cells #[.int .i64 k, .int .i64 i, .int .i64 m] 30)) w.heap.size 30 #[.int .i64 k, .int .i64 i, .int .i64 m] := Bk.at_ _ _ _ _ rfl
  have q0 := B0.cell 0
  have q1 := B0.cell 1
  have q2 := B0.cell 2
  have h' : k < 0 ∨ (0 ≤ k ∧ 4 ≤ k) ∨ (0 ≤ k ∧ k < 4 ∧ i < 0) ∨ (0 ≤ k ∧ k < 4 ∧ 0 ≤ i ∧ m < 1) ∨ (0 ≤ k ∧ k < 4 ∧ 0 ≤ i ∧ 1 ≤ m ∧ 4 < m) := by omega
  clear h
  rcases h' with h | ⟨h, h1⟩ | ⟨h, h1, h2⟩ | ⟨h, h1, h2, h3⟩ | ⟨h, h1, h2, h3, h4⟩
  all_goals
    go_enter Tryd.func51, Tryd.ntmps51
    go_wp2_with fail
    refine (TCheck_ok A n c xs _ (hr.ext (by (repeat (with_reducible first | exact Ext.refl _ | assumption | refine Ext.drew ?_ | refine Ext.drewN ?_ _ | refine Ext.alloc ?_ _ | refine Ext.trans ?_ (by with_reducible assumption))))) hm hn HK.out.2).mono ?_
    rintro e w' ⟨rfl, rfl⟩
    go_wp2_with fail
    go_ret2
    exact ⟨rfl, by (repeat (with_reducible first | exact Ext.refl _ | assumption | refine Ext.drew ?_ | refine Ext.drewN ?_ _ | refine Ext.alloc ?_ _ | refine Ext.trans ?_ (by with_reducible assumption)))⟩

set_option maxRecDepth 100000 in
theorem TSums_bad (A : Option Addr) (n c : Nat) (xs : List Int) (k i m : Int) (w : World) (hr : Rd w 1 A n c (xs.map (Value.int .i64))) (hm : c ≤ maxLen) (hk : ¬ leafsOk xs) :
    Calls Tryd.prog 51 #[.slice A n c, .agg #[.int .i64 k, .int .i64 i, .int .i64 m]] w fun e w' => e = .returned (.tuple #[.slice none 0 0, errV (leafsErr xs)]) ∧ Ext w w' := by
  go_enter Tryd.func51, Tryd.ntmps51
  go_wp2_with fail
  refine (TCheck_bad A n c xs _ (hr.ext (by (repeat (with_reducible first | exact Ext.refl _ | assumption | refine Ext.drew ?_ | refine Ext.drewN ?_ _ | refine Ext.alloc ?_ _ | refine Ext.trans ?_ (by with_reducible assumption))))) hm hk).mono ?_
  rintro e w' ⟨rfl, rfl⟩
  simp only [errV]
  go_wp2_with fail
  go_ret2
  exact ⟨rfl, by (repeat (with_reducible first | exact Ext.refl _ | assumption | refine Ext.drew ?_ | refine Ext.drewN ?_ _ | refine Ext.alloc ?_ _ | refine Ext.trans ?_ (by with_reducible assumption)))⟩

/-! ### tile.Where -/
set_option maxRecDepth 100000 in
theorem Where_ok (k i : Nat) (w : World) (hk : k ≤ 3) (hi : i ≤ 199) :
    Calls Tryd.prog 52 #[.int .i64 k, .int .i64 i] w fun e w' => e = .returned (.tuple #[.agg #[.int .i64 k, .int .i64 ((i : Int) / 4), .int .i64 ((i : Int) % 4 + 1)], .int .i64 ((i : Int) % 4), .nilIface]) ∧ Ext w w' := by
  have e1 : (i : Int) ≤ 199 := by omega
  have e2 : (k : Int) ≤ 3 := by omega
  go_enter Tryd.func52, Tryd.ntmps52
  go_wp2_with fail
  refine bodyPost_ret (by simp [results, Tryd.results52, go_sem]; try rfl) rfl ?_
  exact ⟨rfl, by (repeat (with_reducible first | exact Ext.refl _ | assumption | refine Ext.drew ?_ | refine Ext.drewN ?_ _ | refine Ext.alloc ?_ _ | refine Ext.trans ?_ (by with_reducible assumption)))⟩
set_option maxRecDepth 100000 in
theorem Where_bad (k i : Int) (w : World) (h : ¬ (0 ≤ k ∧ k ≤ 3 ∧ 0 ≤ i ∧ i ≤ 199)) :
    Calls Tryd.prog 52 #[.int .i64 k, .int .i64 i] w fun e w' => e = .returned (.tuple #[.agg #[.int .i64 0, .int .i64 0, .int .i64 0], .int .i64 0, errV 1]) ∧ Ext w w' := by
  have h' : k < 0 ∨ (0 ≤ k ∧ 4 ≤ k) ∨ (0 ≤ k ∧ k < 4 ∧ i < 0) ∨ (0 ≤ k ∧ k < 4 ∧ 0 ≤ i ∧ 200 ≤ i) := by omega
  clear h
  rcases h' with h | ⟨h, h1⟩ | ⟨h, h1, h2⟩ | ⟨h, h1, h2, h3⟩
  all_goals
    go_enter Tryd.func52, Tryd.ntmps52
    go_wp2_with fail
    refine bodyPost_ret (by simp [results, Tryd.results52, go_sem]; try rfl) rfl ?_
    exact ⟨rfl, by (repeat (with_reducible first | exact Ext.refl _ | assumption | refine Ext.drew ?_ | refine Ext.drewN ?_ _ | refine Ext.alloc ?_ _ | refine Ext.trans ?_ (by with_reducible assumption)))⟩
end Go.Proofs.YtgfkalhpefjenaaDoor
