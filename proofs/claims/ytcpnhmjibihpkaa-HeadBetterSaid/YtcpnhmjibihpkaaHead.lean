import Derived.Test.YtcpnhmjibihpkaaErr
import Derived.Test.YtcpnhmjibihpkaaOpen
namespace Go.Proofs.Ytcpnhmjibihpkaa
open Go.RowKit
set_option linter.unusedVariables false

def Hd.ok (h : Hd) : Bool := decide (0 ≤ h.size ∧ h.size ≤ 200 ∧ 0 ≤ h.time ∧ h.time ≤ 1000000) && (vld h.root && vld h.sign)

set_option maxRecDepth 100000 in
set_option maxHeartbeats 1000000 in
theorem headCheck_ok (a b c d : Int) (w : World) (h0 : 0 ≤ a) (h1 : a ≤ 200) (h2 : 0 ≤ c) (h3 : c ≤ 1000000) (h4 : vld b = true) (h5 : vld d = true) :
    Calls Try.prog 58 #[.agg #[.int .i64 a, .int .i64 b, .int .i64 c, .int .i64 d]] w fun e w' => e = .returned .nilIface ∧ Ext w w' := by
  go_enter Try.func58, Try.ntmps58
  go_wp2_with (go_at_call 70; refine (Valid_any _ _).mono ?_; rintro e w' ⟨rfl, rfl⟩)
  go_ret
  exact ⟨rfl, by (repeat (with_reducible first | exact Ext.refl _ | assumption | refine Ext.drew ?_ | refine Ext.drewN ?_ _ | refine Ext.alloc ?_ _ | refine Ext.trans ?_ (by with_reducible assumption)))⟩

set_option maxRecDepth 100000 in
set_option maxHeartbeats 1000000 in
theorem headCheck_bad (a b c d : Int) (w : World) (hb : ¬ (0 ≤ a ∧ a ≤ 200 ∧ 0 ≤ c ∧ c ≤ 1000000 ∧ vld b = true ∧ vld d = true)) :
    Calls Try.prog 58 #[.agg #[.int .i64 a, .int .i64 b, .int .i64 c, .int .i64 d]] w fun e w' => e = .returned (errV 1) ∧ Ext w w' := by
  have cases6 : a < 0 ∨ (0 ≤ a ∧ 200 < a) ∨ (0 ≤ a ∧ a ≤ 200 ∧ c < 0) ∨ (0 ≤ a ∧ a ≤ 200 ∧ 0 ≤ c ∧ 1000000 < c) ∨ (0 ≤ a ∧ a ≤ 200 ∧ 0 ≤ c ∧ c ≤ 1000000 ∧ vld b = false) ∨ (0 ≤ a ∧ a ≤ 200 ∧ 0 ≤ c ∧ c ≤ 1000000 ∧ vld b = true ∧ vld d = false) := by
    by_cases x1 : a < 0
    · exact .inl x1
    by_cases x2 : 200 < a
    · exact .inr (.inl ⟨by omega, x2⟩)
    by_cases x3 : c < 0
    · exact .inr (.inr (.inl ⟨by omega, by omega, x3⟩))
    by_cases x4 : 1000000 < c
    · exact .inr (.inr (.inr (.inl ⟨by omega, by omega, by omega, x4⟩)))
    cases x5 : vld b
    · exact .inr (.inr (.inr (.inr (.inl ⟨by omega, by omega, by omega, by omega, rfl⟩))))
    cases x6 : vld d
    · exact .inr (.inr (.inr (.inr (.inr ⟨by omega, by omega, by omega, by omega, rfl, rfl⟩))))
    exact absurd ⟨by omega, by omega, by omega, by omega, x5, x6⟩ hb
  clear hb
  rcases cases6 with x1 | ⟨x1, x2⟩ | ⟨x1, x2, x3⟩ | ⟨x1, x2, x3, x4⟩ | ⟨x1, x2, x3, x4, x5⟩ | ⟨x1, x2, x3, x4, x5, x6⟩
  all_goals
    go_enter Try.func58, Try.ntmps58
    go_wp2_with (go_at_call 70; refine (Valid_any _ _).mono ?_; rintro e w' ⟨rfl, rfl⟩)
    go_ret
    exact ⟨rfl, by (repeat (with_reducible first | exact Ext.refl _ | assumption | refine Ext.drew ?_ | refine Ext.drewN ?_ _ | refine Ext.alloc ?_ _ | refine Ext.trans ?_ (by with_reducible assumption)))⟩
end Go.Proofs.Ytcpnhmjibihpkaa
namespace Go.Proofs.Ytcpnhmjibihpkaa
open Go.RowKit

def better (a b : Hd) : Bool := decide (b.size < a.size ∨ (a.size = b.size ∧ b.time < a.time))
theorem Hd.ok_parts {h : Hd} (k : h.ok = true) : 0 ≤ h.size ∧ h.size ≤ 200 ∧ 0 ≤ h.time ∧ h.time ≤ 1000000 ∧ vld h.root = true ∧ vld h.sign = true := by
  simp [Hd.ok] at k
  exact ⟨k.1.1, k.1.2.1, k.1.2.2.1, k.1.2.2.2, k.2.1, k.2.2⟩
theorem Hd.not_ok {h : Hd} (k : h.ok = false) : ¬ (0 ≤ h.size ∧ h.size ≤ 200 ∧ 0 ≤ h.time ∧ h.time ≤ 1000000 ∧ vld h.root = true ∧ vld h.sign = true) := by
  rintro ⟨a, b, c, d, e, f⟩
  simp [Hd.ok, a, b, c, d, e, f] at k

theorem Check_ok (h : Hd) (w : World) (k : h.ok = true) : Calls Try.prog 58 #[h.val] w fun e w' => e = .returned .nilIface ∧ Ext w w' := by
  obtain ⟨h0, h1, h2, h3, h4, h5⟩ := Hd.ok_parts k
  exact headCheck_ok _ _ _ _ w h0 h1 h2 h3 h4 h5
theorem Check_bad (h : Hd) (w : World) (k : h.ok = false) : Calls Try.prog 58 #[h.val] w fun e w' => e = .returned (errV 1) ∧ Ext w w' :=
  headCheck_bad _ _ _ _ w (Hd.not_ok k)

set_option maxRecDepth 100000 in
set_option maxHeartbeats 1000000 in
theorem Better_ok (a b : Hd) (w : World) (ka : a.ok = true) (kb : b.ok = true) : Calls Try.prog 18 #[a.val, b.val] w fun e w' => e = .returned (.tuple #[.bool (better a b), .nilIface]) ∧ Ext w w' := by
  have HA := Lib.hid ka
  have HB := Lib.hid kb
  clear ka kb
  obtain ⟨a1, a2, a3, a4⟩ := a
  obtain ⟨b1, b2, b3, b4⟩ := b
  simp only [Hd.val]
  go_enter Try.func18, Try.ntmps18
  go_wp2
  refine wp_loop_rounds 3 ?_
  rw [rounds_succ]
  go_wp2_with fail
  refine (Check_ok ⟨a1, a2, a3, a4⟩ _ HA.out).mono ?_
  rintro e w1 ⟨rfl, hb1⟩
  have A1 : Bk w1 w.heap.size 26 #[.int .i64 a1, .int .i64 a2, .int .i64 a3, .int .i64 a4] := by (repeat (with_reducible first | assumption | (refine Bk.at_ _ _ _ _ ?_; simp; done) | refine Bk.drew ?_ | refine Bk.drewN ?_ _ | refine Bk.alloc ?_ _ | refine Bk.ext ?_ (by with_reducible assumption)))
  have B1 : Bk w1 (w.heap.size + 1) 26 #[.int .i64 b1, .int .i64 b2, .int .i64 b3, .int .i64 b4] := by (repeat (with_reducible first | assumption | (refine Bk.at_ _ _ _ _ ?_; simp; done) | refine Bk.drew ?_ | refine Bk.drewN ?_ _ | refine Bk.alloc ?_ _ | refine Bk.ext ?_ (by with_reducible assumption)))
  have C1 : Bk w1 (w.heap.size + 1 + 1) 26 #[.int .i64 a1, .int .i64 a2, .int .i64 a3, .int .i64 a4, .int .i64 b1, .int .i64 b2, .int .i64 b3, .int .i64 b4] := by (repeat (with_reducible first | assumption | (refine Bk.at_ _ _ _ _ ?_; simp; done) | refine Bk.drew ?_ | refine Bk.drewN ?_ _ | refine Bk.alloc ?_ _ | refine Bk.ext ?_ (by with_reducible assumption)))
  have q := C1.cell
  go_wp2_with fail
  rw [rounds_succ]
  go_wp2_with fail
  refine (Check_ok ⟨b1, b2, b3, b4⟩ _ HB.out).mono ?_
  rintro e w2 ⟨rfl, hb2⟩
  have A2 : Bk w2 w.heap.size 26 #[.int .i64 a1, .int .i64 a2, .int .i64 a3, .int .i64 a4] := by (repeat (with_reducible first | assumption | (refine Bk.at_ _ _ _ _ ?_; simp; done) | refine Bk.drew ?_ | refine Bk.drewN ?_ _ | refine Bk.alloc ?_ _ | refine Bk.ext ?_ (by with_reducible assumption)))
  have B2 : Bk w2 (w.heap.size + 1) 26 #[.int .i64 b1, .int .i64 b2, .int .i64 b3, .int .i64 b4] := by (repeat (with_reducible first | assumption | (refine Bk.at_ _ _ _ _ ?_; simp; done) | refine Bk.drew ?_ | refine Bk.drewN ?_ _ | refine Bk.alloc ?_ _ | refine Bk.ext ?_ (by with_reducible assumption)))
  have qa := A2.cell
  have qb := B2.cell
  clear q
  go_wp2_with fail
  rw [rounds_succ]
  go_wp2_with fail
  all_goals
    go_ret2
    refine ⟨ret_two (congrArg Value.bool ?_) rfl, by (repeat (with_reducible first | exact Ext.refl _ | assumption | refine Ext.drew ?_ | refine Ext.drewN ?_ _ | refine Ext.alloc ?_ _ | refine Ext.trans ?_ (by with_reducible assumption)))⟩
    unfold better
    with_reducible first
      | exact decide_eq_decide.2 (by dsimp only; omega)
      | exact (decide_eq_true (by dsimp only; omega)).symm
      | exact (decide_eq_false (by dsimp only; omega)).symm

set_option maxRecDepth 100000 in
set_option maxHeartbeats 1000000 in
theorem Better_bad (a b : Hd) (w : World) (k : ¬ (a.ok = true ∧ b.ok = true)) : Calls Try.prog 18 #[a.val, b.val] w fun e w' => e = .returned (.tuple #[.bool false, errV 1]) ∧ Ext w w' := by
  cases ka : a.ok
  · have HA := Lib.hid ka
    clear ka k
    obtain ⟨a1, a2, a3, a4⟩ := a
    obtain ⟨b1, b2, b3, b4⟩ := b
    simp only [Hd.val]
    go_enter Try.func18, Try.ntmps18
    go_wp2
    refine wp_loop_rounds 3 ?_
    rw [rounds_succ]
    go_wp2_with fail
    refine (Check_bad ⟨a1, a2, a3, a4⟩ _ HA.out).mono ?_
    rintro e w1 ⟨rfl, hb1⟩
    simp only [errV]
    go_wp2_with fail
    go_ret2
    exact ⟨rfl, by (repeat (with_reducible first | exact Ext.refl _ | assumption | refine Ext.drew ?_ | refine Ext.drewN ?_ _ | refine Ext.alloc ?_ _ | refine Ext.trans ?_ (by with_reducible assumption)))⟩
  · have HA := Lib.hid ka
    have HB := Lib.hid (show b.ok = false by cases h : b.ok with | false => rfl | true => exact absurd ⟨ka, h⟩ k)
    clear ka k
    obtain ⟨a1, a2, a3, a4⟩ := a
    obtain ⟨b1, b2, b3, b4⟩ := b
    simp only [Hd.val]
    go_enter Try.func18, Try.ntmps18
    go_wp2
    refine wp_loop_rounds 3 ?_
    rw [rounds_succ]
    go_wp2_with fail
    refine (Check_ok ⟨a1, a2, a3, a4⟩ _ HA.out).mono ?_
    rintro e w1 ⟨rfl, hb1⟩
    have C1 : Bk w1 (w.heap.size + 1 + 1) 26 #[.int .i64 a1, .int .i64 a2, .int .i64 a3, .int .i64 a4, .int .i64 b1, .int .i64 b2, .int .i64 b3, .int .i64 b4] := by (repeat (with_reducible first | assumption | (refine Bk.at_ _ _ _ _ ?_; simp; done) | refine Bk.drew ?_ | refine Bk.drewN ?_ _ | refine Bk.alloc ?_ _ | refine Bk.ext ?_ (by with_reducible assumption)))
    have q := C1.cell
    go_wp2_with fail
    rw [rounds_succ]
    go_wp2_with fail
    refine (Check_bad ⟨b1, b2, b3, b4⟩ _ HB.out).mono ?_
    rintro e w2 ⟨rfl, hb2⟩
    simp only [errV]
    go_wp2_with fail
    go_ret2
    exact ⟨rfl, by (repeat (with_reducible first | exact Ext.refl _ | assumption | refine Ext.drew ?_ | refine Ext.drewN ?_ _ | refine Ext.alloc ?_ _ | refine Ext.trans ?_ (by with_reducible assumption)))⟩
end Go.Proofs.Ytcpnhmjibihpkaa
