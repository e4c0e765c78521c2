import Derived.Test.YtnphbkjkeipmmaaGreatDoorJRunBegins6
import Derived.Test.YtnphbkjkeipmmaaGreatDoorJRunBegins4
namespace Go.Proofs.YtnphbkjkeipmmaaGreatDoor
open Go.RowKit Go.WideShapes
set_option linter.unusedVariables false
attribute [local go_sem ↓] Go.wp_at_zero Go.wp_at_succ

theorem info_int : (Tryz.prog.info? 3).map (fun i => (i.zero, i.size, i.bytes)) = some (some (.int .i64 0), 1, 8) := by kernel_rfl
/-- a result: a list of sums in new memory -/
def OwnI (w w' : World) (v : Value) (ys : List Int) : Prop := w'.ownsRow w.heap.size 3 1 v ys.length (ys.map (Value.int .i64))
theorem OwnI.ext {w w' w2 : World} {v : Value} {ys : List Int} (h : OwnI w w' v ys) (e : Ext w' w2) : OwnI w w2 v ys := own_ext h e
theorem OwnI.rd {w w' : World} {v : Value} {ys : List Int} (h : OwnI w w' v ys) : ∃ A c, v = .slice A ys.length c ∧ c ≤ maxLen ∧ Rd w' 1 A ys.length c (ys.map (Value.int .i64)) := by
  obtain ⟨A, c, h1, h2, h3, _⟩ := own_rd h
  exact ⟨A, c, h1, h2, h3⟩
theorem OwnI.mk {w w' : World} {v : Value} {n : Nat} {cs : List Value} {ys : List Int} (h : w'.ownsRow w.heap.size 3 1 v n cs) (hn : n = ys.length) (hc : cs = ys.map (Value.int .i64)) : OwnI w w' v ys := by
  subst hn; subst hc; exact h
theorem oneI (z : Int) : ∀ u ∈ [Value.int .i64 z], u.oneCell' = true := by intro u hu; simp at hu; subst hu; rfl

set_option maxRecDepth 100000 in
set_option maxHeartbeats 2000000 in
theorem pof_any (N : Nat) : ∀ (A : Option Addr) (n c : Nat) (xs : List Int) (i : Int) (w : World), n ≤ N → Rd w 1 A n c (xs.map (Value.int .i64)) → c ≤ maxLen → 1 ≤ n → n ≤ 4096 → allV xs = true → 0 ≤ i → i < n →
    Calls Tryz.prog 118 #[.slice A n c, .int .i64 i] w fun e w' => (∃ v, e = .returned v ∧ OwnI w w' v (wayL xs i.toNat)) ∧ Ext w w' := by
  induction N with
  | zero => intro A n c xs i w hN hr hm h1; omega
  | succ N ih =>
    intro A n c xs i w hN hr hm h1 hn hv h0 hi
    obtain ⟨i, rfl⟩ := Int.eq_ofNat_of_zero_le h0
    simp only [Int.toNat_natCast]
    have hx := hr.lenI
    have IH := Lib.hid ih
    clear ih
    by_cases h2 : 2 ≤ n
    · have hl : n ≤ c := hr.2.1
      have hk := half_lt h2 hn
      have hk0 := half_pos n
      have hk' := half_le h2 hn
      have HX := Lib.hid hx
      unfold maxLen at hm
      have q0 : (0 : Int) ≤ (half n : Int) := by omega
      have q1 : (half n : Int) ≤ (n : Int) := by omega
      have q2 : (half n : Int) ≤ (c : Int) := by omega
      have q3 : (n : Int) ≤ (c : Int) := by omega
      have R1 := hr.takeI (k := half n) (by omega)
      have R2 := hr.dropI' (k := half n) (by omega)
      have R2i := hr.dropI (k := half n) (by omega)
      obtain ⟨i0, hi0, hz0, hz1, hz2⟩ := info_parts info_int
      by_cases hik : i < half n
      · have HW := Lib.hid (wayL_left (xs := xs) (i := i) (by omega) (by omega) (by rw [hx]; exact hik))
        have hlen := wayL_len n (xs.take (half n)) i (by rw [List.length_take]; omega) (by rw [List.length_take]; omega)
        rw [List.length_take, Nat.min_eq_left (by omega)] at hlen
        have hsl := stepsN_lt (half n) i (half n) (Nat.le_refl _) (by omega) hk0
        have HL : (wayL (xs.take (half n)) i).length ≤ 4096 := by omega
        clear hx hlen hsl
        go_enter Tryz.func118, Tryz.ntmps118
        go_wp2_with fail
        refine (Half_any _ _ (by omega) (by omega)).mono ?_
        rintro e w' ⟨rfl, rfl⟩
        rw [Int.toNat_natCast]
        go_wp2_with fail
        go_region_held3 (fun _ => True) (exact trivial) (first
          | (go_at_call 118; (with_reducible refine (IH.out A (half n) c (xs.take (half n)) i _ (by omega) (by exact R1.ext (by (repeat (with_reducible first | exact Ext.refl _ | assumption | refine Ext.drew ?_ | refine Ext.drewN ?_ _ | refine Ext.alloc ?_ _ | refine Ext.trans ?_ (by with_reducible assumption))))) (by simp only [maxLen]; omega) hk0 (by omega) (allV_take hv (half n)) (by omega) (by omega)).mono ?_); rintro e w1 ⟨⟨v1, rfl, own1⟩, hb1⟩; have hb1' : Ext w w1 := (by (repeat (with_reducible first | exact Ext.refl _ | assumption | refine Ext.drew ?_ | refine Ext.drewN ?_ _ | refine Ext.alloc ?_ _ | refine Ext.trans ?_ (by with_reducible assumption)))); have own1' : OwnI w w1 v1 (wayL (xs.take (half n)) i) := own1)
          | (go_at_call 111; (with_reducible refine (Of_any N _ _ _ (xs.drop (half n)) _ (by omega) (by first | exact R2.ext (by (repeat (with_reducible first | exact Ext.refl _ | assumption | refine Ext.drew ?_ | refine Ext.drewN ?_ _ | refine Ext.alloc ?_ _ | refine Ext.trans ?_ (by with_reducible assumption)))) | exact R2i.ext (by (repeat (with_reducible first | exact Ext.refl _ | assumption | refine Ext.drew ?_ | refine Ext.drewN ?_ _ | refine Ext.alloc ?_ _ | refine Ext.trans ?_ (by with_reducible assumption))))) (by simp only [maxLen]; omega) (by omega) (allV_drop hv (half n))).mono ?_); rintro e w2 ⟨rfl, hb2⟩)
          | (refine step_app (by rfl) _ _ _ (by rfl) w.heap.size 3 i0 _ 1 8 Tryz.underlying85 hi0 hz0 hz1 hz2 rfl (by omega) v1 _ _ (by rfl) ((own1'.ext hb2).alloc _) w2.heap.size 1 [.int .i64 (ofL (xs.drop (half n)))] rfl (by rfl) (news_new w2 _ _ _ rfl) (oneI _) (by omega) (by omega) (by have := hb1'.size; have := hb2.size; simp; omega) ?_; intro g cap w3 own3 hext3)
          | fail)
        go_wp2_with fail
        go_ret
        refine ⟨⟨_, rfl, OwnI.mk own3 (by rw [HW.out, HX.out]; simp) (by rw [HW.out, HX.out]; simp)⟩, hext3 _ (Nat.le_refl _) (by (repeat (with_reducible first | exact Ext.refl _ | assumption | refine Ext.drew ?_ | refine Ext.drewN ?_ _ | refine Ext.alloc ?_ _ | refine Ext.trans ?_ (by with_reducible assumption))))⟩
      · have HW := Lib.hid (wayL_right (xs := xs) (i := i) (by omega) (by omega) (by rw [hx]; exact hik))
        have hlen := wayL_len n (xs.drop (half n)) (i - half n) (by rw [List.length_drop]; omega) (by rw [List.length_drop]; omega)
        rw [List.length_drop, hx] at hlen
        have hsl := stepsN_lt (n - half n) (i - half n) (n - half n) (Nat.le_refl _) (by omega) (by omega)
        have HL : (wayL (xs.drop (half n)) (i - half n)).length ≤ 4096 := by omega
        have hti : ((i : Int) - (half n : Int)).toNat = i - half n := by omega
        have HT := Lib.hid hti
        clear hx hlen hsl hti
        go_enter Tryz.func118, Tryz.ntmps118
        go_wp2_with fail
        refine (Half_any _ _ (by omega) (by omega)).mono ?_
        rintro e w' ⟨rfl, rfl⟩
        rw [Int.toNat_natCast]
        have qi : (half n : Int) ≤ (i : Int) := by omega
        have e1 : IntKind.i64.wrap ((i : Int) - (half n : Int)) = (i : Int) - (half n : Int) := IntWalk.i64_in _ (by omega)
        go_wp2_with fail
        go_region_held3 (fun _ => True) (exact trivial) (first
          | (go_at_call 118; (with_reducible refine (IH.out _ (n - half n) _ (xs.drop (half n)) _ _ (by omega) (by first | exact R2.ext (by (repeat (with_reducible first | exact Ext.refl _ | assumption | refine Ext.drew ?_ | refine Ext.drewN ?_ _ | refine Ext.alloc ?_ _ | refine Ext.trans ?_ (by with_reducible assumption)))) | exact R2i.ext (by (repeat (with_reducible first | exact Ext.refl _ | assumption | refine Ext.drew ?_ | refine Ext.drewN ?_ _ | refine Ext.alloc ?_ _ | refine Ext.trans ?_ (by with_reducible assumption))))) (by simp only [maxLen]; omega) (by omega) (by omega) (allV_drop hv (half n)) (by omega) (by omega)).mono ?_); rintro e w1 ⟨⟨v1, rfl, own1⟩, hb1⟩; have hb1' : Ext w w1 := (by (repeat (with_reducible first | exact Ext.refl _ | assumption | refine Ext.drew ?_ | refine Ext.drewN ?_ _ | refine Ext.alloc ?_ _ | refine Ext.trans ?_ (by with_reducible assumption)))); rw [HT.out] at own1; have own1' : OwnI w w1 v1 (wayL (xs.drop (half n)) (i - half n)) := own1)
          | (go_at_call 111; (with_reducible refine (Of_any N _ _ _ (xs.take (half n)) _ (by omega) (by exact R1.ext (by (repeat (with_reducible first | exact Ext.refl _ | assumption | refine Ext.drew ?_ | refine Ext.drewN ?_ _ | refine Ext.alloc ?_ _ | refine Ext.trans ?_ (by with_reducible assumption))))) (by simp only [maxLen]; omega) (by omega) (allV_take hv (half n))).mono ?_); rintro e w2 ⟨rfl, hb2⟩)
          | (refine step_app (by rfl) _ _ _ (by rfl) w.heap.size 3 i0 _ 1 8 Tryz.underlying85 hi0 hz0 hz1 hz2 rfl (by omega) v1 _ _ (by rfl) ((own1'.ext hb2).alloc _) w2.heap.size 1 [.int .i64 (ofL (xs.take (half n)))] rfl (by rfl) (news_new w2 _ _ _ rfl) (oneI _) (by omega) (by omega) (by have := hb1'.size; have := hb2.size; simp; omega) ?_; intro g cap w3 own3 hext3)
          | fail)
        go_wp2_with fail
        go_ret
        refine ⟨⟨_, rfl, OwnI.mk own3 (by rw [HW.out, HX.out]; simp) (by rw [HW.out, HX.out]; simp)⟩, hext3 _ (Nat.le_refl _) (by (repeat (with_reducible first | exact Ext.refl _ | assumption | refine Ext.drew ?_ | refine Ext.drewN ?_ _ | refine Ext.alloc ?_ _ | refine Ext.trans ?_ (by with_reducible assumption))))⟩
    · obtain rfl : n = 1 := by omega
      have HW := Lib.hid (wayL_one (xs := xs) (i := i) (by omega))
      clear hx
      go_enter Tryz.func118, Tryz.ntmps118
      go_wp2_with fail
      go_ret
      exact ⟨⟨_, rfl, by rw [HW.out]; exact own_nil _ _ _ _⟩, by (repeat (with_reducible first | exact Ext.refl _ | assumption | refine Ext.drew ?_ | refine Ext.drewN ?_ _ | refine Ext.alloc ?_ _ | refine Ext.trans ?_ (by with_reducible assumption)))⟩

/-! ### proof.Make -/
set_option maxRecDepth 100000 in
theorem PMake_ok (A : Option Addr) (n c : Nat) (xs : List Int) (i m : Int) (w : World) (hr : Rd w 1 A n c (xs.map (Value.int .i64))) (hm : c ≤ maxLen) (hk : leafsOk xs) (h0 : 0 ≤ i) (h1 : i < m) (h2 : m ≤ n) :
    Calls Tryz.prog 87 #[.slice A n c, .int .i64 i, .int .i64 m] w fun e w' => (∃ v, e = .returned (.tuple #[v, .nilIface]) ∧ OwnI w w' v (wayL (xs.take m.toNat) i.toNat)) ∧ Ext w w' := by
  obtain ⟨m, rfl⟩ := Int.eq_ofNat_of_zero_le (show 0 ≤ m by omega)
  simp only [Int.toNat_natCast]
  have hx := hr.lenI
  have hn : n ≤ 200 := by have := hk.1; omega
  have hl := hr.2.1
  have q3 : (n : Int) ≤ (c : Int) := by omega
  have q4 : (m : Int) ≤ (c : Int) := by omega
  have q5 : (0 : Int) ≤ (m : Int) := by omega
  have R := hr.takeI (k := m) (by omega)
  have hva := allV_take hk.2 m
  have HX := Lib.hid hx
  clear hx
  go_enter Tryz.func87, Tryz.ntmps87
  go_wp2_with fail
  refine (TCheck_ok A n c xs _ hr hm hn hk.2).mono ?_
  rintro e w' ⟨rfl, rfl⟩
  go_wp2_with fail
  refine (pof_any m A m c (xs.take m) i _ (Nat.le_refl _) R hm (by omega) (by omega) hva h0 (by omega)).mono ?_
  rintro e w1 ⟨⟨v, rfl, hv⟩, hb1⟩
  go_wp2_with fail
  go_ret2
  exact ⟨⟨_, rfl, hv⟩, by (repeat (with_reducible first | exact Ext.refl _ | assumption | refine Ext.drew ?_ | refine Ext.drewN ?_ _ | refine Ext.alloc ?_ _ | refine Ext.trans ?_ (by with_reducible assumption)))⟩
set_option maxRecDepth 100000 in
theorem PMake_range (A : Option Addr) (n c : Nat) (xs : List Int) (i m : Int) (w : World) (hr : Rd w 1 A n c (xs.map (Value.int .i64))) (hm : c ≤ maxLen) (hk : leafsOk xs) (h : ¬ (0 ≤ i ∧ i < m ∧ m ≤ n)) :
    Calls Tryz.prog 87 #[.slice A n c, .int .i64 i, .int .i64 m] w fun e w' => e = .returned (.tuple #[.slice none 0 0, errV 1]) ∧ Ext w w' := by
  have hx := hr.lenI
  have hn : n ≤ 200 := by have := hk.1; omega
  have h' : i < 0 ∨ (0 ≤ i ∧ m ≤ i) ∨ (0 ≤ i ∧ i < m ∧ (n : Int) < m) := by omega
  have HX := Lib.hid hx
  clear hx h
  rcases h' with h1 | ⟨h1, h2⟩ | ⟨h1, h2, h3⟩
  all_goals
    go_enter Tryz.func87, Tryz.ntmps87
    go_wp2_with fail
    refine (TCheck_ok A n c xs _ hr hm hn hk.2).mono ?_
    rintro e w' ⟨rfl, rfl⟩
    go_wp2_with fail
    go_ret2
    exact ⟨rfl, by (repeat (with_reducible first | exact Ext.refl _ | assumption | refine Ext.drew ?_ | refine Ext.drewN ?_ _ | refine Ext.alloc ?_ _ | refine Ext.trans ?_ (by with_reducible assumption)))⟩
set_option maxRecDepth 100000 in
theorem PMake_bad (A : Option Addr) (n c : Nat) (xs : List Int) (i m : Int) (w : World) (hr : Rd w 1 A n c (xs.map (Value.int .i64))) (hm : c ≤ maxLen) (h : ¬ leafsOk xs) :
    Calls Tryz.prog 87 #[.slice A n c, .int .i64 i, .int .i64 m] w fun e w' => e = .returned (.tuple #[.slice none 0 0, errV (leafsErr xs)]) ∧ Ext w w' := by
  go_enter Tryz.func87, Tryz.ntmps87
  go_wp2_with fail
  refine (TCheck_bad A n c xs _ hr hm h).mono ?_
  rintro e w' ⟨rfl, rfl⟩
  simp only [errV]
  go_wp2_with fail
  go_ret2
  exact ⟨rfl, by (repeat (with_reducible first | exact Ext.refl _ | assumption | refine Ext.drew ?_ | refine Ext.drewN ?_ _ | refine Ext.alloc ?_ _ | refine Ext.trans ?_ (by with_reducible assumption)))⟩

/-! ### proof.root -/
theorem last_of {ps : List Int} {k : Nat} (h : ps.length = k + 1) : ps[k]? = some (ps.getLastD 0) := by
  have hne : ps ≠ [] := by intro e; subst e; simp at h
  rw [List.getLastD_eq_getLast?, List.getLast?_eq_getElem?, h]
  simp
  rw [List.getElem?_eq_getElem (by omega)]
  rfl
theorem init_of {ps : List Int} {k : Nat} (h : ps.length = k + 1) : ps.take k = ps.dropLast := by
  rw [List.dropLast_eq_take, h]; rfl

end Go.Proofs.YtnphbkjkeipmmaaGreatDoor

namespace Go.Proofs.YtnphbkjkeipmmaaGreatDoor
open Go.RowKit Go.WideShapes
set_option linter.unusedVariables false

end Go.Proofs.YtnphbkjkeipmmaaGreatDoor

namespace Go.Proofs.YtnphbkjkeipmmaaGreatDoor
open Go.RowKit Go.WideShapes
set_option linter.unusedVariables false

theorem half_done {n q : Nat} (h1 : 1 ≤ n) (hn : n ≤ 4096) (hq : ∃ j, q = 2 ^ j) (h : q < n ∨ q = 1) (h' : n ≤ 2 * q) : half n = q := by
  obtain ⟨j, rfl⟩ := hq
  by_cases h2 : 2 ≤ n
  · have : 2 ^ j < n := by
      rcases h with h | h
      · exact h
      · omega
    exact half_eq h2 hn this (by rw [Nat.pow_succ]; omega)
  · obtain rfl : n = 1 := by omega
    have e1 : half 1 = 1 := by decide
    rw [e1]
    rcases h with h | h
    · have := Nat.one_le_two_pow (n := j); omega
    · exact h.symm

theorem RHalf_any (n : Nat) (w : World) (h1 : 1 ≤ n) (hn : n ≤ 4096) :
    Calls Tryz.prog 62 #[.int .i64 n] w fun e w' => e = .returned (.int .i64 (half n : Nat)) ∧ w = w' := by
  go_enter Tryz.func62, Tryz.ntmps62
  go_wp2_with fail
  go_loop [3] (fun a => ∃ q : Nat, a = .int .i64 q ∧ Hid (∃ j, q = 2 ^ j) ∧ (q < n ∨ q = 1) ∧ 1 ≤ q) (fun a => n - (intOf a).toNat)
  case atStart => exact ⟨1, rfl, ⟨0, rfl⟩, .inr rfl, Nat.le_refl _⟩
  case round =>
    obtain ⟨q, rfl, HJ, hq, hq1⟩ := hrel
    by_cases hc : 2 * q < n
    · go_wp2_with fail
      go_round
      case rel => exact ⟨2 * q, by go_num, (by obtain ⟨j, hj⟩ := HJ.out; exact ⟨j + 1, by rw [hj, Nat.pow_succ]; omega⟩), .inl hc, by omega⟩
      case measure => simp [intOf]; omega
    · have HH := Lib.hid (half_done h1 hn HJ.out hq (by omega))
      go_wp2_with fail
      go_ret
      exact ⟨ret_int (by rw [HH.out]), rfl⟩

end Go.Proofs.YtnphbkjkeipmmaaGreatDoor
