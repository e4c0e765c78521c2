/- head.Better, both ways. -/
import Derived.Test.YtdpfebokbikgfaaDoorHds
namespace Go.Proofs.YtdpfebokbikgfaaDoor
open Go.RowKit Go.WideShapes
set_option linter.unusedVariables false
attribute [local go_sem ↓] Go.wp_at_zero Go.wp_at_succ

def better (a b : Hd) : Bool := decide (b.size < a.size ∨ (a.size = b.size ∧ b.time < a.time))
theorem Check_ok (h : Hd) (w : World) (k : h.ok = true) : Calls Tryd.prog 59 #[h.val] w fun e w' => e = .returned .nilIface ∧ Ext w w' := by
  have := HCheck_any h w
  rw [show hdK h = 0 from if_pos k, errR_0] at this
  exact this
theorem Check_bad (h : Hd) (w : World) (k : h.ok = false) : Calls Tryd.prog 59 #[h.val] w fun e w' => e = .returned (errV 1) ∧ Ext w w' := by
  have := HCheck_any h w
  rw [show hdK h = 1 from if_neg (by rw [k]; decide), errR_ne (by decide)] at this
  exact this

set_option maxRecDepth 100000 in
set_option maxHeartbeats 1000000 in
theorem Better_ok (a b : Hd) (w : World) (ka : a.ok = true) (kb : b.ok = true) : Calls Tryd.prog 76 #[a.val, b.val] w fun e w' => e = .returned (.tuple #[.bool (better a b), .nilIface]) ∧ Ext w w' := by
  have HA := Lib.hid ka
  have HB := Lib.hid kb
  clear ka kb
  obtain ⟨a1, a2, a3, a4⟩ := a
  obtain ⟨b1, b2, b3, b4⟩ := b
  simp only [Hd.val]
  go_enter Tryd.func76, Tryd.ntmps76
  go_wp2
  refine wp_loop_rounds 3 ?_
  rw [rounds_succ]
  go_wp2_with fail
  refine (Check_ok ⟨a1, a2, a3, a4⟩ _ HA.out).mono ?_
  rintro e w1 ⟨rfl, hb1⟩
  have A1 : Bk w1 w.heap.size 31 #[.int .i64 a1, .int .i64 a2, .int .i64 a3, .int .i64 a4] := by (repeat (with_reducible first | assumption | (refine Bk.at_ _ _ _ _ ?_; simp; done) | refine Bk.drew ?_ | refine Bk.drewN ?_ _ | refine Bk.alloc ?_ _ | refine Bk.ext ?_ (by with_reducible assumption)))
  have B1 : Bk w1 (w.heap.size + 1) 31 #[.int .i64 b1, .int .i64 b2, .int .i64 b3, .int .i64 b4] := by (repeat (with_reducible first | assumption | (refine Bk.at_ _ _ _ _ ?_; simp; done) | refine Bk.drew ?_ | refine Bk.drewN ?_ _ | refine Bk.alloc ?_ _ | refine Bk.ext ?_ (by with_reducible assumption)))
  have C1 : Bk w1 (w.heap.size + 1 + 1) 31 #[.int .i64 a1, .int .i64 a2, .int .i64 a3, .int .i64 a4, .int .i64 b1, .int .i64 b2, .int .i64 b3, .int .i64 b4] := by (repeat (with_reducible first | assumption | (refine Bk.at_ _ _ _ _ ?_; simp; done) | refine Bk.drew ?_ | refine Bk.drewN ?_ _ | refine Bk.alloc ?_ _ | refine Bk.ext ?_ (by with_reducible assumption)))
  have q := C1.cell
  go_wp2_with fail
  rw [rounds_succ]
  go_wp2_with fail
  refine (Check_ok ⟨b1, b2, b3, b4⟩ _ HB.out).mono ?_
  rintro e w2 ⟨rfl, hb2⟩
  have A2 : Bk w2 w.heap.size 31 #[.int .i64 a1, .int .i64 a2, .int .i64 a3, .int .i64 a4] := by (repeat (with_reducible first | assumption | (refine Bk.at_ _ _ _ _ ?_; simp; done) | refine Bk.drew ?_ | refine Bk.drewN ?_ _ | refine Bk.alloc ?_ _ | refine Bk.ext ?_ (by with_reducible assumption)))
  have B2 : Bk w2 (w.heap.size + 1) 31 #[.int .i64 b1, .int .i64 b2, .int .i64 b3, .int .i64 b4] := by (repeat (with_reducible first | assumption | (refine Bk.at_ _ _ _ _ ?_; simp; done) | refine Bk.drew ?_ | refine Bk.drewN ?_ _ | refine Bk.alloc ?_ _ | refine Bk.ext ?_ (by with_reducible assumption)))
  have qa := A2.cell
  have qb := B2.cell
  clear q
  go_wp2_with fail
  rw [rounds_succ]
  go_wp2_with fail
  all_goals
    go_ret2
    refine ⟨ret_two (congrArg Value.bool ?_) rfl, by (repeat (with_reducible first | exact Ext.refl _ | assumption | refine Ext.drew ?_ | refine Ext.drewN ?_ _ | refine Ext.alloc ?_ _ | refine Ext.trans ?_ (by with_reducible assumption)))⟩
    unfold better
    with_reducible first
      | exact decide_eq_decide.2 (by dsimp only; omega)
      | exact (decide_eq_true (by dsimp only; omega)).symm
      | exact (decide_eq_false (by dsimp only; omega)).symm

set_option maxRecDepth 100000 in
set_option maxHeartbeats 1000000 in
theorem Better_bad (a b : Hd) (w : World) (k : ¬ (a.ok = true ∧ b.ok = true)) : Calls Tryd.prog 76 #[a.val, b.val] w fun e w' => e = .returned (.tuple #[.bool false, errV 1]) ∧ Ext w w' := by
  cases ka : a.ok
  · have HA := Lib.hid ka
    clear ka k
    obtain ⟨a1, a2, a3, a4⟩ := a
    obtain ⟨b1, b2, b3, b4⟩ := b
    simp only [Hd.val]
    go_enter Tryd.func76, Tryd.ntmps76
    go_wp2
    refine wp_loop_rounds 3 ?_
    rw [rounds_succ]
    go_wp2_with fail
    refine (Check_bad ⟨a1, a2, a3, a4⟩ _ HA.out).mono ?_
    rintro e w1 ⟨rfl, hb1⟩
    simp only [errV]
    go_wp2_with fail
    go_ret2
    exact ⟨rfl, by (repeat (with_reducible first | exact Ext.refl _ | assumption | refine Ext.drew ?_ | refine Ext.drewN ?_ _ | refine Ext.alloc ?_ _ | refine Ext.trans ?_ (by with_reducible assumption)))⟩
  · have HA := Lib.hid ka
    have HB := Lib.hid (show b.ok = false by cases h : b.ok with | false => rfl | true => exact absurd ⟨ka, h⟩ k)
    clear ka k
    obtain ⟨a1, a2, a3, a4⟩ := a
    obtain ⟨b1, b2, b3, b4⟩ := b
    simp only [Hd.val]
    go_enter Tryd.func76, Tryd.ntmps76
    go_wp2
    refine wp_loop_rounds 3 ?_
    rw [rounds_succ]
    go_wp2_with fail
    refine (Check_ok ⟨a1, a2, a3, a4⟩ _ HA.out).mono ?_
    rintro e w1 ⟨rfl, hb1⟩
    have C1 : Bk w1 (w.heap.size + 1 + 1) 31 #[.int .i64 a1, .int .i64 a2, .int .i64 a3, .int .i64 a4, .int .i64 b1, .int .i64 b2, .int .i64 b3, .int .i64 b4] := by (repeat (with_reducible first | assumption | (refine Bk.at_ _ _ _ _ ?_; simp; done) | refine Bk.drew ?_ | refine Bk.drewN ?_ _ | refine Bk.alloc ?_ _ | refine Bk.ext ?_ (by with_reducible assumption)))
    have q := C1.cell
    go_wp2_with fail
    rw [rounds_succ]
    go_wp2_with fail
    refine (Check_bad ⟨b1, b2, b3, b4⟩ _ HB.out).mono ?_
    rintro e w2 ⟨rfl, hb2⟩
    simp only [errV]
    go_wp2_with fail
    go_ret2
    exact ⟨rfl, by (repeat (with_reducible first | exact Ext.refl _ | assumption | refine Ext.drew ?_ | refine Ext.drewN ?_ _ | refine Ext.alloc ?_ _ | refine Ext.trans ?_ (by with_reducible assumption)))⟩

/-- the fault of two heads -/
def twoK (a b : Hd) : Int := if hdK a = 0 then hdK b else hdK a
def betB2 (a b : Hd) : Bool := isOk (twoK a b) && better a b
theorem Better_any (a b : Hd) (w : World) : Calls Tryd.prog 76 #[a.val, b.val] w fun e w' => e = .returned (.tuple #[.bool (betB2 a b), errR (twoK a b)]) ∧ Ext w w' := by
  by_cases h : a.ok = true ∧ b.ok = true
  · have h1 : hdK a = 0 := if_pos h.1
    have h2 : hdK b = 0 := if_pos h.2
    have h3 : twoK a b = 0 := by unfold twoK; rw [if_pos h1, h2]
    have h4 : betB2 a b = better a b := by unfold betB2; rw [h3]; rfl
    rw [h4, h3]
    exact Better_ok a b w h.1 h.2
  · have h3 : twoK a b = 1 := by
      unfold twoK
      cases ha : a.ok with
      | true =>
        have hb : ¬ b.ok = true := fun e => h ⟨ha, e⟩
        rw [show hdK a = 0 from if_pos ha, if_pos rfl]
        exact if_neg hb
      | false =>
        have h1 : hdK a = 1 := if_neg (by rw [ha]; decide)
        rw [h1, if_neg (by decide)]
    have h4 : betB2 a b = false := by unfold betB2; rw [h3]; rfl
    rw [h4, h3]
    exact Better_bad a b w h
end Go.Proofs.YtdpfebokbikgfaaDoor
