import Derived.Test.YtcpnhmjibihpkaaHead
namespace Go.Proofs.Ytcpnhmjibihpkaa.headBetter
open Go.RowKit Go.WideShapes
set_option linter.unusedVariables false

theorem better_not (a b : Hd) (h : better a b = true) : better b a = false := by
  unfold better at h ⊢
  have := of_decide_eq_true h
  exact decide_eq_false (by omega)
theorem better_trans (a b c : Hd) (h : better a b = true) (k : better b c = true) : better a c = true := by
  unfold better at h k ⊢
  have := of_decide_eq_true h
  have := of_decide_eq_true k
  exact decide_eq_true (by omega)
theorem ok2 : (⟨2, 0, 0, 0⟩ : Hd).ok = true := by decide
theorem ok1 : (⟨1, 0, 5, 0⟩ : Hd).ok = true := by decide
theorem b21 : better ⟨2, 0, 0, 0⟩ ⟨1, 0, 5, 0⟩ = true := by decide
theorem not_both {x y : Bool} (h : x = false ∨ y = false) : ¬ (x = true ∧ y = true) := by rintro ⟨rfl, rfl⟩; simp at h

set_option maxRecDepth 100000 in
set_option maxHeartbeats 4000000 in
theorem walk_ok (a1 a2 a3 a4 b1 b2 b3 b4 c1 c2 c3 c4 : Int) (w : World) (HA : Hid ((⟨a1, a2, a3, a4⟩ : Hd).ok = true)) (HB : Hid ((⟨b1, b2, b3, b4⟩ : Hd).ok = true)) (HC : Hid ((⟨c1, c2, c3, c4⟩ : Hd).ok = true)) :
    Calls Try.prog 4 #[.agg #[.int .i64 a1, .int .i64 a2, .int .i64 a3, .int .i64 a4], .agg #[.int .i64 b1, .int .i64 b2, .int .i64 b3, .int .i64 b4], .agg #[.int .i64 c1, .int .i64 c2, .int .i64 c3, .int .i64 c4]] w fun e w' => e = .returned (.bool true) ∧ Ext w w' := by
  cases hx : better ⟨a1, a2, a3, a4⟩ ⟨b1, b2, b3, b4⟩
  · have hx' : True := trivial
    go_enter Try.func4, Try.ntmps4
    go_wp2_with fail
    refine (Better_ok ⟨2, 0, 0, 0⟩ ⟨1, 0, 5, 0⟩ _ ok2 ok1).mono ?_
    rintro e w1 ⟨rfl, hb1⟩
    rw [b21]
    have A1 : Bk w1 w.heap.size 26 #[.int .i64 a1, .int .i64 a2, .int .i64 a3, .int .i64 a4] := by (repeat (with_reducible first | assumption | (refine Bk.at_ _ _ _ _ ?_; simp; done) | refine Bk.drew ?_ | refine Bk.drewN ?_ _ | refine Bk.alloc ?_ _ | refine Bk.ext ?_ (by with_reducible assumption)))
    have B1 : Bk w1 (w.heap.size + 1) 26 #[.int .i64 b1, .int .i64 b2, .int .i64 b3, .int .i64 b4] := by (repeat (with_reducible first | assumption | (refine Bk.at_ _ _ _ _ ?_; simp; done) | refine Bk.drew ?_ | refine Bk.drewN ?_ _ | refine Bk.alloc ?_ _ | refine Bk.ext ?_ (by with_reducible assumption)))
    have C1 : Bk w1 (w.heap.size + 1 + 1) 26 #[.int .i64 c1, .int .i64 c2, .int .i64 c3, .int .i64 c4] := by (repeat (with_reducible first | assumption | (refine Bk.at_ _ _ _ _ ?_; simp; done) | refine Bk.drew ?_ | refine Bk.drewN ?_ _ | refine Bk.alloc ?_ _ | refine Bk.ext ?_ (by with_reducible assumption)))
    have qa := A1.cell
    have qb := B1.cell
    have qc := C1.cell
    go_wp2_with fail
    clear qa qb qc
    (with_reducible first | (refine (Better_ok ⟨a1, a2, a3, a4⟩ ⟨b1, b2, b3, b4⟩ _ HA.out HB.out).mono ?_) | (refine (Better_bad ⟨a1, a2, a3, a4⟩ ⟨b1, b2, b3, b4⟩ _ (not_both (by first | exact .inl HA.out | exact .inr HB.out))).mono ?_))
    rintro e w2 ⟨rfl, hb2⟩
    have A2 := A1.ext hb2
    have B2 := B1.ext hb2
    have C2 := C1.ext hb2
    simp only [errV]
    have qa := A2.cell
    have qb := B2.cell
    have qc := C2.cell
    go_wp2_with fail
    clear qa qb qc
    (with_reducible first | (refine (Better_ok ⟨b1, b2, b3, b4⟩ ⟨a1, a2, a3, a4⟩ _ HB.out HA.out).mono ?_) | (refine (Better_bad ⟨b1, b2, b3, b4⟩ ⟨a1, a2, a3, a4⟩ _ (not_both (by first | exact .inl HB.out | exact .inr HA.out))).mono ?_))
    rintro e w3 ⟨rfl, hb3⟩
    have A3 := A2.ext hb3
    have B3 := B2.ext hb3
    have C3 := C2.ext hb3
    simp only [errV]
    have qa := A3.cell
    have qb := B3.cell
    have qc := C3.cell
    go_wp2_with fail
    clear qa qb qc
    (with_reducible first | (refine (Better_ok ⟨b1, b2, b3, b4⟩ ⟨c1, c2, c3, c4⟩ _ HB.out HC.out).mono ?_) | (refine (Better_bad ⟨b1, b2, b3, b4⟩ ⟨c1, c2, c3, c4⟩ _ (not_both (by first | exact .inl HB.out | exact .inr HC.out))).mono ?_))
    rintro e w4 ⟨rfl, hb4⟩
    have A4 := A3.ext hb4
    have B4 := B3.ext hb4
    have C4 := C3.ext hb4
    simp only [errV]
    have qa := A4.cell
    have qb := B4.cell
    have qc := C4.cell
    go_wp2_with fail
    clear qa qb qc
    (with_reducible first | (refine (Better_ok ⟨a1, a2, a3, a4⟩ ⟨c1, c2, c3, c4⟩ _ HA.out HC.out).mono ?_) | (refine (Better_bad ⟨a1, a2, a3, a4⟩ ⟨c1, c2, c3, c4⟩ _ (not_both (by first | exact .inl HA.out | exact .inr HC.out))).mono ?_))
    rintro e w5 ⟨rfl, hb5⟩
    have A5 := A4.ext hb5
    have B5 := B4.ext hb5
    have C5 := C4.ext hb5
    simp only [errV]
    go_wp2_with fail
    go_ret
    exact ⟨rfl, by (repeat (with_reducible first | exact Ext.refl _ | assumption | refine Ext.drew ?_ | refine Ext.drewN ?_ _ | refine Ext.alloc ?_ _ | refine Ext.trans ?_ (by with_reducible assumption)))⟩
  cases hy : better ⟨b1, b2, b3, b4⟩ ⟨c1, c2, c3, c4⟩
  · have hn := better_not _ _ hx
    go_enter Try.func4, Try.ntmps4
    go_wp2_with fail
    refine (Better_ok ⟨2, 0, 0, 0⟩ ⟨1, 0, 5, 0⟩ _ ok2 ok1).mono ?_
    rintro e w1 ⟨rfl, hb1⟩
    rw [b21]
    have A1 : Bk w1 w.heap.size 26 #[.int .i64 a1, .int .i64 a2, .int .i64 a3, .int .i64 a4] := by (repeat (with_reducible first | assumption | (refine Bk.at_ _ _ _ _ ?_; simp; done) | refine Bk.drew ?_ | refine Bk.drewN ?_ _ | refine Bk.alloc ?_ _ | refine Bk.ext ?_ (by with_reducible assumption)))
    have B1 : Bk w1 (w.heap.size + 1) 26 #[.int .i64 b1, .int .i64 b2, .int .i64 b3, .int .i64 b4] := by (repeat (with_reducible first | assumption | (refine Bk.at_ _ _ _ _ ?_; simp; done) | refine Bk.drew ?_ | refine Bk.drewN ?_ _ | refine Bk.alloc ?_ _ | refine Bk.ext ?_ (by with_reducible assumption)))
    have C1 : Bk w1 (w.heap.size + 1 + 1) 26 #[.int .i64 c1, .int .i64 c2, .int .i64 c3, .int .i64 c4] := by (repeat (with_reducible first | assumption | (refine Bk.at_ _ _ _ _ ?_; simp; done) | refine Bk.drew ?_ | refine Bk.drewN ?_ _ | refine Bk.alloc ?_ _ | refine Bk.ext ?_ (by with_reducible assumption)))
    have qa := A1.cell
    have qb := B1.cell
    have qc := C1.cell
    go_wp2_with fail
    clear qa qb qc
    (with_reducible first | (refine (Better_ok ⟨a1, a2, a3, a4⟩ ⟨b1, b2, b3, b4⟩ _ HA.out HB.out).mono ?_) | (refine (Better_bad ⟨a1, a2, a3, a4⟩ ⟨b1, b2, b3, b4⟩ _ (not_both (by first | exact .inl HA.out | exact .inr HB.out))).mono ?_))
    rintro e w2 ⟨rfl, hb2⟩
    have A2 := A1.ext hb2
    have B2 := B1.ext hb2
    have C2 := C1.ext hb2
    simp only [errV]
    have qa := A2.cell
    have qb := B2.cell
    have qc := C2.cell
    go_wp2_with fail
    clear qa qb qc
    (with_reducible first | (refine (Better_ok ⟨b1, b2, b3, b4⟩ ⟨a1, a2, a3, a4⟩ _ HB.out HA.out).mono ?_) | (refine (Better_bad ⟨b1, b2, b3, b4⟩ ⟨a1, a2, a3, a4⟩ _ (not_both (by first | exact .inl HB.out | exact .inr HA.out))).mono ?_))
    rintro e w3 ⟨rfl, hb3⟩
    have A3 := A2.ext hb3
    have B3 := B2.ext hb3
    have C3 := C2.ext hb3
    simp only [errV]
    have qa := A3.cell
    have qb := B3.cell
    have qc := C3.cell
    go_wp2_with fail
    clear qa qb qc
    (with_reducible first | (refine (Better_ok ⟨b1, b2, b3, b4⟩ ⟨c1, c2, c3, c4⟩ _ HB.out HC.out).mono ?_) | (refine (Better_bad ⟨b1, b2, b3, b4⟩ ⟨c1, c2, c3, c4⟩ _ (not_both (by first | exact .inl HB.out | exact .inr HC.out))).mono ?_))
    rintro e w4 ⟨rfl, hb4⟩
    have A4 := A3.ext hb4
    have B4 := B3.ext hb4
    have C4 := C3.ext hb4
    simp only [errV]
    have qa := A4.cell
    have qb := B4.cell
    have qc := C4.cell
    go_wp2_with fail
    clear qa qb qc
    (with_reducible first | (refine (Better_ok ⟨a1, a2, a3, a4⟩ ⟨c1, c2, c3, c4⟩ _ HA.out HC.out).mono ?_) | (refine (Better_bad ⟨a1, a2, a3, a4⟩ ⟨c1, c2, c3, c4⟩ _ (not_both (by first | exact .inl HA.out | exact .inr HC.out))).mono ?_))
    rintro e w5 ⟨rfl, hb5⟩
    have A5 := A4.ext hb5
    have B5 := B4.ext hb5
    have C5 := C4.ext hb5
    simp only [errV]
    go_wp2_with fail
    go_ret
    exact ⟨rfl, by (repeat (with_reducible first | exact Ext.refl _ | assumption | refine Ext.drew ?_ | refine Ext.drewN ?_ _ | refine Ext.alloc ?_ _ | refine Ext.trans ?_ (by with_reducible assumption)))⟩
  · have hn := better_not _ _ hx
    have hz := better_trans _ _ _ hx hy
    go_enter Try.func4, Try.ntmps4
    go_wp2_with fail
    refine (Better_ok ⟨2, 0, 0, 0⟩ ⟨1, 0, 5, 0⟩ _ ok2 ok1).mono ?_
    rintro e w1 ⟨rfl, hb1⟩
    rw [b21]
    have A1 : Bk w1 w.heap.size 26 #[.int .i64 a1, .int .i64 a2, .int .i64 a3, .int .i64 a4] := by (repeat (with_reducible first | assumption | (refine Bk.at_ _ _ _ _ ?_; simp; done) | refine Bk.drew ?_ | refine Bk.drewN ?_ _ | refine Bk.alloc ?_ _ | refine Bk.ext ?_ (by with_reducible assumption)))
    have B1 : Bk w1 (w.heap.size + 1) 26 #[.int .i64 b1, .int .i64 b2, .int .i64 b3, .int .i64 b4] := by (repeat (with_reducible first | assumption | (refine Bk.at_ _ _ _ _ ?_; simp; done) | refine Bk.drew ?_ | refine Bk.drewN ?_ _ | refine Bk.alloc ?_ _ | refine Bk.ext ?_ (by with_reducible assumption)))
    have C1 : Bk w1 (w.heap.size + 1 + 1) 26 #[.int .i64 c1, .int .i64 c2, .int .i64 c3, .int .i64 c4] := by (repeat (with_reducible first | assumption | (refine Bk.at_ _ _ _ _ ?_; simp; done) | refine Bk.drew ?_ | refine Bk.drewN ?_ _ | refine Bk.alloc ?_ _ | refine Bk.ext ?_ (by with_reducible assumption)))
    have qa := A1.cell
    have qb := B1.cell
    have qc := C1.cell
    go_wp2_with fail
    clear qa qb qc
    (with_reducible first | (refine (Better_ok ⟨a1, a2, a3, a4⟩ ⟨b1, b2, b3, b4⟩ _ HA.out HB.out).mono ?_) | (refine (Better_bad ⟨a1, a2, a3, a4⟩ ⟨b1, b2, b3, b4⟩ _ (not_both (by first | exact .inl HA.out | exact .inr HB.out))).mono ?_))
    rintro e w2 ⟨rfl, hb2⟩
    have A2 := A1.ext hb2
    have B2 := B1.ext hb2
    have C2 := C1.ext hb2
    simp only [errV]
    have qa := A2.cell
    have qb := B2.cell
    have qc := C2.cell
    go_wp2_with fail
    clear qa qb qc
    (with_reducible first | (refine (Better_ok ⟨b1, b2, b3, b4⟩ ⟨a1, a2, a3, a4⟩ _ HB.out HA.out).mono ?_) | (refine (Better_bad ⟨b1, b2, b3, b4⟩ ⟨a1, a2, a3, a4⟩ _ (not_both (by first | exact .inl HB.out | exact .inr HA.out))).mono ?_))
    rintro e w3 ⟨rfl, hb3⟩
    have A3 := A2.ext hb3
    have B3 := B2.ext hb3
    have C3 := C2.ext hb3
    simp only [errV]
    have qa := A3.cell
    have qb := B3.cell
    have qc := C3.cell
    go_wp2_with fail
    clear qa qb qc
    (with_reducible first | (refine (Better_ok ⟨b1, b2, b3, b4⟩ ⟨c1, c2, c3, c4⟩ _ HB.out HC.out).mono ?_) | (refine (Better_bad ⟨b1, b2, b3, b4⟩ ⟨c1, c2, c3, c4⟩ _ (not_both (by first | exact .inl HB.out | exact .inr HC.out))).mono ?_))
    rintro e w4 ⟨rfl, hb4⟩
    have A4 := A3.ext hb4
    have B4 := B3.ext hb4
    have C4 := C3.ext hb4
    simp only [errV]
    have qa := A4.cell
    have qb := B4.cell
    have qc := C4.cell
    go_wp2_with fail
    clear qa qb qc
    (with_reducible first | (refine (Better_ok ⟨a1, a2, a3, a4⟩ ⟨c1, c2, c3, c4⟩ _ HA.out HC.out).mono ?_) | (refine (Better_bad ⟨a1, a2, a3, a4⟩ ⟨c1, c2, c3, c4⟩ _ (not_both (by first | exact .inl HA.out | exact .inr HC.out))).mono ?_))
    rintro e w5 ⟨rfl, hb5⟩
    have A5 := A4.ext hb5
    have B5 := B4.ext hb5
    have C5 := C4.ext hb5
    simp only [errV]
    go_wp2_with fail
    go_ret
    exact ⟨rfl, by (repeat (with_reducible first | exact Ext.refl _ | assumption | refine Ext.drew ?_ | refine Ext.drewN ?_ _ | refine Ext.alloc ?_ _ | refine Ext.trans ?_ (by with_reducible assumption)))⟩

set_option maxRecDepth 100000 in
set_option maxHeartbeats 4000000 in
theorem walk_bad (a1 a2 a3 a4 b1 b2 b3 b4 c1 c2 c3 c4 : Int) (w : World) (hn : (⟨a1, a2, a3, a4⟩ : Hd).ok = false ∨ (⟨b1, b2, b3, b4⟩ : Hd).ok = false ∨ (⟨c1, c2, c3, c4⟩ : Hd).ok = false) :
    Calls Try.prog 4 #[.agg #[.int .i64 a1, .int .i64 a2, .int .i64 a3, .int .i64 a4], .agg #[.int .i64 b1, .int .i64 b2, .int .i64 b3, .int .i64 b4], .agg #[.int .i64 c1, .int .i64 c2, .int .i64 c3, .int .i64 c4]] w fun e w' => e = .returned (.bool true) ∧ Ext w w' := by
  cases ha : (⟨a1, a2, a3, a4⟩ : Hd).ok <;> cases hb : (⟨b1, b2, b3, b4⟩ : Hd).ok <;> cases hc : (⟨c1, c2, c3, c4⟩ : Hd).ok
  case true.true.true => simp [ha, hb, hc] at hn
  all_goals
    clear hn
    have HA := Lib.hid ha
    have HB := Lib.hid hb
    have HC := Lib.hid hc
    clear ha hb hc
    go_enter Try.func4, Try.ntmps4
    go_wp2_with fail
    refine (Better_ok ⟨2, 0, 0, 0⟩ ⟨1, 0, 5, 0⟩ _ ok2 ok1).mono ?_
    rintro e w1 ⟨rfl, hb1⟩
    rw [b21]
    have A1 : Bk w1 w.heap.size 26 #[.int .i64 a1, .int .i64 a2, .int .i64 a3, .int .i64 a4] := by (repeat (with_reducible first | assumption | (refine Bk.at_ _ _ _ _ ?_; simp; done) | refine Bk.drew ?_ | refine Bk.drewN ?_ _ | refine Bk.alloc ?_ _ | refine Bk.ext ?_ (by with_reducible assumption)))
    have B1 : Bk w1 (w.heap.size + 1) 26 #[.int .i64 b1, .int .i64 b2, .int .i64 b3, .int .i64 b4] := by (repeat (with_reducible first | assumption | (refine Bk.at_ _ _ _ _ ?_; simp; done) | refine Bk.drew ?_ | refine Bk.drewN ?_ _ | refine Bk.alloc ?_ _ | refine Bk.ext ?_ (by with_reducible assumption)))
    have C1 : Bk w1 (w.heap.size + 1 + 1) 26 #[.int .i64 c1, .int .i64 c2, .int .i64 c3, .int .i64 c4] := by (repeat (with_reducible first | assumption | (refine Bk.at_ _ _ _ _ ?_; simp; done) | refine Bk.drew ?_ | refine Bk.drewN ?_ _ | refine Bk.alloc ?_ _ | refine Bk.ext ?_ (by with_reducible assumption)))
    have qa := A1.cell
    have qb := B1.cell
    have qc := C1.cell
    go_wp2_with fail
    clear qa qb qc
    (with_reducible first | (refine (Better_ok ⟨a1, a2, a3, a4⟩ ⟨b1, b2, b3, b4⟩ _ HA.out HB.out).mono ?_) | (refine (Better_bad ⟨a1, a2, a3, a4⟩ ⟨b1, b2, b3, b4⟩ _ (not_both (by first | exact .inl HA.out | exact .inr HB.out))).mono ?_))
    rintro e w2 ⟨rfl, hb2⟩
    have A2 := A1.ext hb2
    have B2 := B1.ext hb2
    have C2 := C1.ext hb2
    simp only [errV]
    have qa := A2.cell
    have qb := B2.cell
    have qc := C2.cell
    go_wp2_with fail
    clear qa qb qc
    (with_reducible first | (refine (Better_ok ⟨b1, b2, b3, b4⟩ ⟨a1, a2, a3, a4⟩ _ HB.out HA.out).mono ?_) | (refine (Better_bad ⟨b1, b2, b3, b4⟩ ⟨a1, a2, a3, a4⟩ _ (not_both (by first | exact .inl HB.out | exact .inr HA.out))).mono ?_))
    rintro e w3 ⟨rfl, hb3⟩
    have A3 := A2.ext hb3
    have B3 := B2.ext hb3
    have C3 := C2.ext hb3
    simp only [errV]
    have qa := A3.cell
    have qb := B3.cell
    have qc := C3.cell
    go_wp2_with fail
    clear qa qb qc
    (with_reducible first | (refine (Better_ok ⟨b1, b2, b3, b4⟩ ⟨c1, c2, c3, c4⟩ _ HB.out HC.out).mono ?_) | (refine (Better_bad ⟨b1, b2, b3, b4⟩ ⟨c1, c2, c3, c4⟩ _ (not_both (by first | exact .inl HB.out | exact .inr HC.out))).mono ?_))
    rintro e w4 ⟨rfl, hb4⟩
    have A4 := A3.ext hb4
    have B4 := B3.ext hb4
    have C4 := C3.ext hb4
    simp only [errV]
    have qa := A4.cell
    have qb := B4.cell
    have qc := C4.cell
    go_wp2_with fail
    clear qa qb qc
    (with_reducible first | (refine (Better_ok ⟨a1, a2, a3, a4⟩ ⟨c1, c2, c3, c4⟩ _ HA.out HC.out).mono ?_) | (refine (Better_bad ⟨a1, a2, a3, a4⟩ ⟨c1, c2, c3, c4⟩ _ (not_both (by first | exact .inl HA.out | exact .inr HC.out))).mono ?_))
    rintro e w5 ⟨rfl, hb5⟩
    have A5 := A4.ext hb5
    have B5 := B4.ext hb5
    have C5 := C4.ext hb5
    simp only [errV]
    go_wp2_with fail
    go_ret
    exact ⟨rfl, by (repeat (with_reducible first | exact Ext.refl _ | assumption | refine Ext.drew ?_ | refine Ext.drewN ?_ _ | refine Ext.alloc ?_ _ | refine Ext.trans ?_ (by with_reducible assumption)))⟩

theorem walk (a b c : Hd) (w : World) (ga : a.good) (gb : b.good) (gc : c.good) :
    Calls Try.prog 4 #[.agg a.cells.toArray, .agg b.cells.toArray, .agg c.cells.toArray] w fun e w' => e = .returned (.bool true) ∧ Ext w w' := by
  cases ha : a.ok
  · exact walk_bad _ _ _ _ _ _ _ _ _ _ _ _ w (.inl ha)
  cases hb : b.ok
  · exact walk_bad _ _ _ _ _ _ _ _ _ _ _ _ w (.inr (.inl hb))
  cases hc : c.ok
  · exact walk_bad _ _ _ _ _ _ _ _ _ _ _ _ w (.inr (.inr hc))
  exact walk_ok _ _ _ _ _ _ _ _ _ _ _ _ w ha hb hc
end Go.Proofs.Ytcpnhmjibihpkaa.headBetter
